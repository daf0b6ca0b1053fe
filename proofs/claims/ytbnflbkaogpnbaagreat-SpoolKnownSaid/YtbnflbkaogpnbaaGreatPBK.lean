/- Texts in one: KL. -/
import Derived.Test.YtbnflbkaogpnbaaGreatPBJ
namespace Go.Proofs.YtbnflbkaogpnbaaGreat
set_option linter.unusedVariables false
open Go.RowKit
def D13.cells (x : D13) : Array Value := #[.int .i64 x.kind, .int .i64 x.num, .slice x.data.A x.data.n x.data.c, .slice x.lstA x.lstn x.lstc, .slice x.keepA x.keepn x.keepc]
def D13.val (x : D13) : Value := .agg x.cells
/-- A deed in a block of its own, beside the pair. -/
structure DeAt (w0 w : World) (DB : Nat) (x : D13) (fp gp S G : List Nat) (p : Nat) : Prop where
 blk : w.heap[DB]? = some (.cells x.cells 47 (0, 0))
 ok : x.Ok w0
 nf : DB ∉ fp
 ng : DB ∉ gp
 nS : DB ∉ S
 nG : DB ∉ G
 np : DB ≠ p
theorem DeAt.cells {w0 w : World} {DB : Nat} {x : D13} {fp gp S G : List Nat} {p : Nat} (h : DeAt w0 w DB x fp gp S G p) : w.cell? ⟨DB, 0, none⟩ = some (.int .i64 x.kind) ∧ w.cell? ⟨DB, 1, none⟩ = some (.int .i64 x.num) ∧ w.cell? ⟨DB, 2, none⟩ = some (.slice x.data.A x.data.n x.data.c) ∧ w.cell? ⟨DB, 3, none⟩ = some (.slice x.lstA x.lstn x.lstc) ∧ w.cell? ⟨DB, 4, none⟩ = some (.slice x.keepA x.keepn x.keepc) := by
 refine ⟨?_, ?_, ?_, ?_, ?_⟩ <;> (rw [blk_cell h.blk]; rfl)
theorem DeAt.drew {w0 w : World} {DB : Nat} {x : D13} {fp gp S G : List Nat} {p : Nat} (h : DeAt w0 w DB x fp gp S G p) : DeAt w0 w.drew DB x fp gp S G p := ⟨h.blk, h.ok, h.nf, h.ng, h.nS, h.nG, h.np⟩
theorem DeAt.dev {w0 w w' : World} {DB : Nat} {x : D13} {fp gp S G fp' : List Nat} {p : Nat} (h : DeAt w0 w DB x fp gp S G p) (hk : Kept fp w w') (hn : ∀ j ∈ fp', j ∈ fp ∨ w.heap.size ≤ j) : DeAt w0 w' DB x fp' gp S G p :=
  ⟨(hk.block DB (World.lt_of_heap h.blk) h.nf).trans h.blk, h.ok, fun hm => by
    rcases hn _ hm with e | e
    · exact h.nf e
    · have := World.lt_of_heap h.blk; omega, h.ng, h.nS, h.nG, h.np⟩
theorem DeAt.ref {w0 w w' : World} {DB : Nat} {x : D13} {fp gp S G gp' : List Nat} {p : Nat} (h : DeAt w0 w DB x fp gp S G p) (hk : Kept gp w w') (hn : ∀ j ∈ gp', j ∈ gp ∨ w.heap.size ≤ j) : DeAt w0 w' DB x fp gp' S G p :=
  ⟨(hk.block DB (World.lt_of_heap h.blk) h.ng).trans h.blk, h.ok, h.nf, fun hm => by
    rcases hn _ hm with e | e
    · exact h.ng e
    · have := World.lt_of_heap h.blk; omega, h.nS, h.nG, h.np⟩
theorem keep_out13 {w0 w : World} {x : D13} (hx : x.Ok w0) (hk : Kept [] w0 w) {F : List Nat} (hF : ∀ j ∈ F, w0.heap.size ≤ j) : SlAt w x.keepA x.keepn x.keepc (x.keep.map i64v) ∧ ∀ p, x.keepA = some p → 0 < x.keepn → p.block ∉ F :=
 ⟨hx.keepS.kept hk (by simp), fun p e hn hm => by
  have h1 := hx.keepS.lt' hn e
  have h2 := hF _ hm
  omega⟩
/-- The pair's fine is written. -/
theorem Pr13.fine {w0 w : World} {p a r : Nat} {f m : Int} {d e : Dev} {os om : Option Sp} {vs vm : Value} {fp gp S G : List Nat} {t : Nat → Nat} (h : Pr13 w0 w p a r f m d e os om vs vm fp gp S G t) : ∃ t', Pr13 w0 (w.setCell ⟨p, 6, none⟩ (.bool true)) p a r f m d e os om vs vm fp gp S G t' :=
 h.put (Kept.refl _ _) (Kept.setCell (by simp) _) (heap_set h.head 6 (.bool true)) h.st h.rt (fun j hj => .inl hj) (fun j hj => .inl hj) (fun j hj hm => by have h1 := h.tS j hj; have h2 := h.tG j hm; omega) h.ltS h.ltG
/-- A deed's sizes. -/
structure D13.Fits (x : D13) : Prop where
 data : x.data.n ≤ 20000
 lst : x.lstn ≤ 1000
 parts : ∀ q ∈ x.lst, q.n ≤ 100000
set_option maxHeartbeats 8000000 in
set_option maxRecDepth 100000 in
theorem pairStep13_any {w0 w : World} {p a r : Nat} {f m : Int} {d : Dev} {os : Option Sp} {k : Nat} (h : PrZ w0 w p a r f m d os k) (hk : k ≤ 1000) (x : D13) (hx : x.Ok w0) (hxf : x.Fits) :
  Calls Tryz.prog 34 #[.pointer (some ⟨p, 0, none⟩), x.val] w (PzStep w0 p a r f m (k + 1)) := by
 obtain ⟨vs, vm, fp, gp, S, G, t, hP⟩ := h.ex
 obtain ⟨W, hW⟩ : ∃ W, w.alloc (.cells x.cells 47) = W := ⟨_, rfl⟩
 have kD : Kept [] w W := by rw [← hW]; exact Kept.alloc [] _ _
 have hdb : DeAt w0 W w.heap.size x fp gp S G p := ⟨by rw [← hW]; exact heap_alloc_new _ _, hx, fun hm => Nat.lt_irrefl _ (hP.dv.lt _ hm), fun hm => Nat.lt_irrefl _ (hP.rv.lt _ hm), fun hm => Nat.lt_irrefl _ (hP.ltS _ hm), fun hm => Nat.lt_irrefl _ (hP.ltG _ hm), fun e => by have := hP.pl; omega⟩
 have hX := h.next kD
 have hP1 := hP.next kD
 have hdw := hP.dv.wf
 have hwks := h.works
 have lf : ∀ j ∈ fp, w0.heap.size ≤ j := fun j hj => hP.low j (.inr (.inl hj))
 have lg : ∀ j ∈ gp, w0.heap.size ≤ j := fun j hj => hP.low j (.inr (.inr (.inl hj)))
 have hz := hP.kept.size
 obtain ⟨q, hq⟩ : ∃ q : Nat, x.kind % 8 = q := ⟨(x.kind % 8).toNat, by omega⟩
 have hq8 : q < 8 := by omega
 have cb := fun W => bring_any x.kind 8 W (by omega) (by omega) hx.kind.1 hx.kind.2
 rw [hq] at cb
 obtain ⟨dl1, dl2, dl3, dl4, dl5⟩ := dev_len d
 obtain ⟨dw1, dw2, dw3, dw4, dw5⟩ := dev_works d
 clear hP hq
 unfold D13.val D13.cells
 unfold D13.cells at hW
 go_enter Tryz.func34, Tryz.ntmps34
 go_upto_region 1 with fail
 try rw [hW]
 clear hW
 have hDl := World.lt_of_heap hdb.blk
 generalize w.heap.size = DB at *
 obtain ⟨b0, b1, b2, b3, b4⟩ := hdb.cells
 obtain ⟨c0, c1, c2, c3, c4, c5, c6, cf⟩ := pr13_cells hP1.head
 go_wp2_with fail
 refine (cb _).mono ?_
 rintro e w3 ⟨rfl, rfl⟩
 clear cb
 have hqc : q = 0 ∨ q = 1 ∨ q = 2 ∨ q = 3 ∨ q = 4 ∨ q = 5 ∨ q = 6 ∨ q = 7 := by omega
 rcases hqc with rfl | rfl | rfl | rfl | rfl | rfl | rfl | rfl
 ·as_aux_lemma =>
   cases os with
   | none =>
    have hm0 : vm = .pointer none := hP1.rt
    subst hm0
    go_wp2_with fail
    go_end0
    exact ⟨rfl, d, none, hX.more⟩
   | some s =>
    obtain ⟨y1, zs, zt1, slp, stp, hvs, hS1, hj1⟩ := hP1.spP
    obtain ⟨y2, zm, zt2, sp, B, hvm, hR1, hj2⟩ := hP1.rgP
    subst hvs hvm
    have hok := h.wf s rfl
    have hlen := h.len
    have hdat := hx.data.1.kept hP1.kept (by simp)
    have hdl := hx.data.1.len
    have hxn := hxf.data
    have cc := copyBytes_any W x.data.A x.data.n x.data.c x.data.xs hdat (by omega)
    have yS : y1 ∈ S := hj1 y1 (.inl rfl)
    have yG : y2 ∈ G := hj2 y2 (.inl rfl)
    have offS : ∀ j, j ∉ fp → j ∉ S → j ∉ y1 :: (fp ++ slp ++ stp) := fun j h1 h2 hm => by
     simp only [List.mem_cons, List.mem_append] at hm
     rcases hm with e | (e | e) | e
     ·exact h2 (e ▸ yS)
     ·exact h1 e
     ·exact h2 (hj1 j (.inr (.inl e)))
     ·exact h2 (hj1 j (.inr (.inr e)))
    have offG : ∀ j, j ∉ gp → j ∉ G → j ∉ y2 :: zm :: (gp ++ sp) := fun j h1 h2 hm => by
     simp only [List.mem_cons, List.mem_append] at hm
     rcases hm with e | e | e | e
     ·exact h2 (e ▸ yG)
     ·exact h2 (hj2 j (.inr (.inl e)))
     ·exact h1 e
     ·exact h2 (hj2 j (.inr (.inr e)))
    have oldO : ∀ j, j < w0.heap.size → j ∉ y1 :: (fp ++ slp ++ stp) ∧ j ∉ y2 :: zm :: (gp ++ sp) := fun j hj =>
     ⟨offS j (fun hm => by have := lf j hm; omega) (fun hm => by have := hP1.low j (.inr (.inr (.inr (.inl hm)))); omega), offG j (fun hm => by have := lg j hm; omega) (fun hm => by have := hP1.low j (.inr (.inr (.inr (.inr hm)))); omega)⟩
    have newO : ∀ j, W.heap.size ≤ j → j ∉ y1 :: (fp ++ slp ++ stp) ∧ j ∉ y2 :: zm :: (gp ++ sp) := fun j hj =>
     ⟨offS j (fun hm => by have := hP1.dv.lt j hm; omega) (fun hm => by have := hP1.ltS j hm; omega), offG j (fun hm => by have := hP1.rv.lt j hm; omega) (fun hm => by have := hP1.ltG j hm; omega)⟩
    have dbO : DB ∉ y1 :: (fp ++ slp ++ stp) ∧ DB ∉ y2 :: zm :: (gp ++ sp) := ⟨offS DB hdb.nf hdb.nS, offG DB hdb.ng hdb.nG⟩
    have y21 : ∀ j, j = y2 ∨ j = zm ∨ j ∈ sp → j ∉ y1 :: (fp ++ slp ++ stp) := fun j hj => offS j (fun hm => by have h1 := hP1.tG j (hj2 j hj); have h2 := hP1.tf j hm; omega) (fun hm => by have h1 := hP1.tG j (hj2 j hj); have h2 := hP1.tS j hm; omega)
    have gpO : ∀ j ∈ gp, j ∉ y1 :: (fp ++ slp ++ stp) := fun j hj => offS j (fun hm => by have h1 := hP1.tg j hj; have h2 := hP1.tf j hm; omega) (fun hm => by have h1 := hP1.tg j hj; have h2 := hP1.tS j hm; omega)
    go_wp2_with fail
    refine cc.mono ?_
    rintro e w2 ⟨A2, n2, rfl, hown2, hbel2⟩
    have hk2 := Kept.of_below (F := []) hbel2
    obtain ⟨hs2, hn2⟩ := ClonePost.sl hown2
    have hA2 := row_nil hown2
    have hP2 := hP1.next hk2
    have hS2 := hS1.new hk2
    have hR2 := hR1.new hk2
    have hd2 : DeAt w0 w2 DB x fp gp S G p := ⟨(hk2.block DB hDl (by simp)).trans hdb.blk, hdb.ok, hdb.nf, hdb.ng, hdb.nS, hdb.nG, hdb.np⟩
    obtain ⟨y0, ya, yb, yc, yd, ye, yg, yf⟩ := pr13_cells hP2.head
    obtain ⟨z0, z1, z2, z3, z4⟩ := hd2.cells
    have hdat2 := hdat.kept hk2 (by simp)
    obtain ⟨q1, q2, q3⟩ := hok.append x.data.xs
    have hmy := hok.many
    have hxl : x.data.xs.length = x.data.n := by simpa [u8vs] using hdl
    have ca := fun W' (hk : Kept [] w2 W') => spoolAppend_any (hS2.new hk) hok.wf (by omega) A2 x.data.n n2 x.data.xs (hs2.kept hk (by simp)) hA2 (fun p' e _ => fun e2 => (newO p'.block (hn2 p' e)).1 (by rw [e2]; simp)) (by omega)
    have hokw := hok.wf
    obtain ⟨X, hX'⟩ : ∃ X, s.append d x.data.xs = X := ⟨_, rfl⟩
    rw [hX'] at ca q1 q2 q3
    have HXX := Lib.hid hX'
    have hxw : X.2.1.works ≤ 10000000 * ((k + 1 : Nat) : Int) := by push_cast; omega
    have hAout : ∀ p', A2 = some p' → p'.block ∉ y1 :: (fp ++ slp ++ stp) ∧ p'.block ∉ y2 :: zm :: (gp ++ sp) := fun p' e => newO _ (hn2 p' e)
    have hDout : ∀ p', x.data.A = some p' → 0 < x.data.n → p'.block ∉ y1 :: (fp ++ slp ++ stp) ∧ p'.block ∉ y2 :: zm :: (gp ++ sp) := fun p' e hn => oldO _ (hx.data.1.lt' hn e)
    clear hX' c0 c1 c2 c3 c4 c5 c6 cf cc hown2 hbel2 b0 b1 b2 b3 b4
    go_wp2_with fail
    refine wp_region_calm (S := (fun W => W.cell? ⟨p, 3, none⟩ = some (.pointer (some ⟨y1, 0, none⟩)) ∧ W.cell? ⟨p, 5, none⟩ = some (.pointer (some ⟨y2, 0, none⟩)) ∧ W.cell? ⟨p, 6, none⟩ = some (.bool true) ∧ W.cell? ⟨DB, 2, none⟩ = some (.slice x.data.A x.data.n x.data.c))) (by kernel_rfl) (show _ ∧ _ ∧ _ ∧ _ from ⟨yc, ye, yg, z2⟩) (fun hHeld => ?_)
    refine tk (i := 0) (v := ?_) (hy := Or.inl ⟨by rfl, ?_⟩) (hS := hHeld) (h := ?_)
    rotate_left
    ·intro w hSw
     try dsimp only at hSw
     go_simp
     all_goals with_reducible rfl
    try simp only [Act.put, List.setIfInBounds_toArray, List.set_cons_zero, List.set_cons_succ]
    refine tk (i := 1) (v := ?_) (hy := Or.inl ⟨by rfl, ?_⟩) (hS := hHeld) (h := ?_)
    rotate_left
    ·intro w hSw
     try dsimp only at hSw
     go_simp
     all_goals with_reducible rfl
    try simp only [Act.put, List.setIfInBounds_toArray, List.set_cons_zero, List.set_cons_succ]
    refine tk (i := 2) (v := ?_) (hy := Or.inl ⟨by rfl, ?_⟩) (hS := hHeld) (h := ?_)
    rotate_left
    ·intro w hSw
     try dsimp only at hSw
     go_simp
     all_goals with_reducible rfl
    try simp only [Act.put, List.setIfInBounds_toArray, List.set_cons_zero, List.set_cons_succ]
    refine tk (i := 3) (v := ?_) (hy := Or.inl ⟨by rfl, ?_⟩) (hS := hHeld) (h := ?_)
    rotate_left
    ·intro w hSw
     try dsimp only at hSw
     go_simp
     all_goals with_reducible rfl
    try simp only [Act.put, List.setIfInBounds_toArray, List.set_cons_zero, List.set_cons_succ]
    refine tk (i := 4) (v := ?_) (hy := Or.inl ⟨by rfl, ?_⟩) (hS := hHeld) (h := ?_)
    rotate_left
    ·intro w hSw
     try dsimp only at hSw
     obtain ⟨s0, s1, s2, s3⟩ := hSw
     go_simp
     all_goals with_reducible rfl
    try simp only [Act.put, List.setIfInBounds_toArray, List.set_cons_zero, List.set_cons_succ]
    refine tk (i := 5) (v := ?_) (hy := Or.inl ⟨by rfl, ?_⟩) (hS := hHeld) (h := ?_)
    rotate_left
    ·intro w hSw
     try dsimp only at hSw
     go_simp
     all_goals with_reducible rfl
    try simp only [Act.put, List.setIfInBounds_toArray, List.set_cons_zero, List.set_cons_succ]
    refine tk (i := 6) (v := ?_) (hy := Or.inl ⟨by rfl, ?_⟩) (hS := hHeld) (h := ?_)
    rotate_left
    ·intro w hSw
     try dsimp only at hSw
     go_simp
     all_goals with_reducible rfl
    try simp only [Act.put, List.setIfInBounds_toArray, List.set_cons_zero, List.set_cons_succ]
    refine tk (i := 7) (v := ?_) (hy := Or.inl ⟨by rfl, ?_⟩) (hS := hHeld) (h := ?_)
    rotate_left
    ·intro w hSw
     try dsimp only at hSw
     go_simp
     all_goals with_reducible rfl
    try simp only [Act.put, List.setIfInBounds_toArray, List.set_cons_zero, List.set_cons_succ]
    refine tk (i := 8) (v := ?_) (hy := Or.inl ⟨by rfl, ?_⟩) (hS := hHeld) (h := ?_)
    rotate_left
    ·intro w hSw
     try dsimp only at hSw
     go_simp
     all_goals with_reducible rfl
    try simp only [Act.put, List.setIfInBounds_toArray, List.set_cons_zero, List.set_cons_succ]
    refine tk (i := 9) (v := ?_) (hy := Or.inl ⟨by rfl, ?_⟩) (hS := hHeld) (h := ?_)
    rotate_left
    ·intro w hSw
     try dsimp only at hSw
     obtain ⟨s0, s1, s2, s3⟩ := hSw
     go_simp
     all_goals with_reducible rfl
    try simp only [Act.put, List.setIfInBounds_toArray, List.set_cons_zero, List.set_cons_succ]
    refine tk (i := 10) (v := ?_) (hy := Or.inl ⟨by rfl, ?_⟩) (hS := hHeld) (h := ?_)
    rotate_left
    ·intro w hSw
     try dsimp only at hSw
     go_simp
     all_goals with_reducible rfl
    try simp only [Act.put, List.setIfInBounds_toArray, List.set_cons_zero, List.set_cons_succ]
    refine tk (i := 12) (v := ?_) (hy := Or.inl ⟨by rfl, ?_⟩) (hS := hHeld) (h := ?_)
    rotate_left
    ·intro w hSw
     try dsimp only at hSw
     go_simp
     all_goals with_reducible rfl
    try simp only [Act.put, List.setIfInBounds_toArray, List.set_cons_zero, List.set_cons_succ]
    refine tk (i := 13) (v := ?_) (hy := Or.inl ⟨by rfl, ?_⟩) (hS := hHeld) (h := ?_)
    rotate_left
    ·intro w hSw
     try dsimp only at hSw
     go_simp
     all_goals with_reducible rfl
    try simp only [Act.put, List.setIfInBounds_toArray, List.set_cons_zero, List.set_cons_succ]
    refine tk (i := 14) (v := ?_) (hy := Or.inl ⟨by rfl, ?_⟩) (hS := hHeld) (h := ?_)
    rotate_left
    ·intro w hSw
     try dsimp only at hSw
     go_simp
     all_goals with_reducible rfl
    try simp only [Act.put, List.setIfInBounds_toArray, List.set_cons_zero, List.set_cons_succ]
    refine tk (i := 15) (v := ?_) (hy := Or.inl ⟨by rfl, ?_⟩) (hS := hHeld) (h := ?_)
    rotate_left
    ·intro w hSw
     try dsimp only at hSw
     obtain ⟨s0, s1, s2, s3⟩ := hSw
     go_simp
     all_goals with_reducible rfl
    try simp only [Act.put, List.setIfInBounds_toArray, List.set_cons_zero, List.set_cons_succ]
    refine tk (i := 16) (v := ?_) (hy := Or.inl ⟨by rfl, ?_⟩) (hS := hHeld) (h := ?_)
    rotate_left
    ·intro w hSw
     try dsimp only at hSw
     go_simp
     all_goals with_reducible rfl
    try simp only [Act.put, List.setIfInBounds_toArray, List.set_cons_zero, List.set_cons_succ]
    refine tk (i := 17) (v := ?_) (hy := Or.inl ⟨by rfl, ?_⟩) (hS := hHeld) (h := ?_)
    rotate_left
    ·intro w hSw
     try dsimp only at hSw
     obtain ⟨s0, s1, s2, s3⟩ := hSw
     go_simp
     all_goals with_reducible rfl
    try simp only [Act.put, List.setIfInBounds_toArray, List.set_cons_zero, List.set_cons_succ]
    refine wpAnyH_ready (rs := [11]) (by kernel_rfl) (by simp) ?_
    refine AllReadyH.cons (by simp only [List.getElem?_toArray, List.getElem?_cons_succ, List.getElem?_cons_zero]; rfl) (fun K hK => ?_) AllReadyH.nil
    go_simp
    refine (ca _ (Kept.drew [] w2)).mono ?_
    rintro e w4 ⟨rfl, fp4, slp4, stp4, hS4, hs4⟩
    obtain ⟨t4, hP4⟩ := (hP2.next (Kept.drew [] w2)).log hj1 hS4 hs4
    have e4 := pr13_cells hP4.head
    have hk4 := hs4.kept
    have hb4 : w4.heap[DB]? = some (.cells x.cells 47 (0, 0)) := (hk4.block DB (World.lt_of_heap hd2.blk) dbO.1).trans hd2.blk
    have z4 : w4.cell? ⟨DB, 2, none⟩ = some (.slice x.data.A x.data.n x.data.c) := by rw [blk_cell hb4]; rfl
    have hsA4 := (hs2.kept (Kept.drew [] w2) (by simp)).keptP hk4 (fun p' e _ => (hAout p' e).1)
    have hsD4 := (hdat2.kept (Kept.drew [] w2) (by simp)).keptP hk4 (fun p' e hn => (hDout p' e hn).1)
    have hR4 : RgP w4 y2 zm zt2 r f.toNat gp sp s d B := ⟨(hR2.new (Kept.drew [] w2)).q.kept hk4 (y21 _ (.inl rfl)) (y21 _ (.inr (.inl rfl))) (fun j hj => y21 j (.inr (.inr hj))), (hR2.new (Kept.drew [] w2)).dv.kept hk4 gpO, hR2.y1, hR2.z1, hR2.d2⟩
    go_wp2_with fail
    refine hK.out _ _ ?_ (fun hHeld2 => ?_)
    ·exact ⟨e4.2.2.2.1, e4.2.2.2.2.2.1, e4.2.2.2.2.2.2.1, z4⟩
    clear hK K hHeld
    have hHeld := hHeld2
    clear hHeld2
    try simp only [Act.put, List.setIfInBounds_toArray, List.set_cons_zero, List.set_cons_succ]
    refine wpAnyH_ready (rs := [18]) (by kernel_rfl) (by simp) ?_
    refine AllReadyH.cons (by simp only [List.getElem?_toArray, List.getElem?_cons_succ, List.getElem?_cons_zero]; rfl) (fun K hK => ?_) AllReadyH.nil
    go_simp
    refine (ref13Append_any hR4 hdw hokw (by omega) x.data.A x.data.n x.data.c x.data.xs hsD4 hx.data.2 (fun p' e hn => fun e2 => (hDout p' e hn).2 (by rw [e2]; simp)) (by omega)).mono ?_
    rintro e w5 ⟨rfl, gp5, sp5, B5, hR5, hs5⟩
    rw [HXX.out] at hR5 ⊢
    obtain ⟨t5, hP5⟩ := hP4.rlog hj2 hR5 hs5
    have e5 := pr13_cells hP5.head
    have hk5 := hs5.kept
    have hb5 : w5.heap[DB]? = some (.cells x.cells 47 (0, 0)) := (hk5.block DB (World.lt_of_heap hb4) dbO.2).trans hb4
    have z5 : w5.cell? ⟨DB, 2, none⟩ = some (.slice x.data.A x.data.n x.data.c) := by rw [blk_cell hb5]; rfl
    have hsA5 := hsA4.keptP hk5 (fun p' e _ => (hAout p' e).2)
    have hsD5 := hsD4.keptP hk5 (fun p' e hn => (hDout p' e hn).2)
    go_wp2_with fail
    refine hK.out _ _ ?_ (fun hHeld2 => ?_)
    ·exact ⟨e5.2.2.2.1, e5.2.2.2.2.2.1, e5.2.2.2.2.2.2.1, z5⟩
    clear hK K hHeld
    have hHeld := hHeld2
    clear hHeld2
    try simp only [Act.put, List.setIfInBounds_toArray, List.set_cons_zero, List.set_cons_succ]
    refine tk (i := 19) (v := ?_) (hy := Or.inl ⟨by rfl, ?_⟩) (hS := hHeld) (h := ?_)
    rotate_left
    ·intro w hSw
     try dsimp only at hSw
     go_simp
     all_goals with_reducible rfl
    try simp only [Act.put, List.setIfInBounds_toArray, List.set_cons_zero, List.set_cons_succ]
    refine tk (i := 20) (v := ?_) (hy := Or.inl ⟨by rfl, ?_⟩) (hS := hHeld) (h := ?_)
    rotate_left
    ·intro w hSw
     try dsimp only at hSw
     go_simp
     all_goals with_reducible rfl
    try simp only [Act.put, List.setIfInBounds_toArray, List.set_cons_zero, List.set_cons_succ]
    refine tk (i := 21) (v := ?_) (hy := Or.inl ⟨by rfl, ?_⟩) (hS := hHeld) (h := ?_)
    rotate_left
    ·intro w hSw
     try dsimp only at hSw
     go_simp
     all_goals with_reducible rfl
    try simp only [Act.put, List.setIfInBounds_toArray, List.set_cons_zero, List.set_cons_succ]
    refine tk (i := 22) (v := ?_) (hy := Or.inl ⟨by rfl, ?_⟩) (hS := hHeld) (h := ?_)
    rotate_left
    ·intro w hSw
     try dsimp only at hSw
     go_simp
     all_goals with_reducible rfl
    try simp only [Act.put, List.setIfInBounds_toArray, List.set_cons_zero, List.set_cons_succ]
    refine tk (i := 23) (v := ?_) (hy := Or.inl ⟨by rfl, ?_⟩) (hS := hHeld) (h := ?_)
    rotate_left
    ·intro w hSw
     try dsimp only at hSw
     go_simp
     all_goals with_reducible rfl
    try simp only [Act.put, List.setIfInBounds_toArray, List.set_cons_zero, List.set_cons_succ]
    refine tk (i := 24) (v := ?_) (hy := Or.inl ⟨by rfl, ?_⟩) (hS := hHeld) (h := ?_)
    rotate_left
    ·intro w hSw
     try dsimp only at hSw
     obtain ⟨s0, s1, s2, s3⟩ := hSw
     go_simp
     all_goals with_reducible rfl
    try simp only [Act.put, List.setIfInBounds_toArray, List.set_cons_zero, List.set_cons_succ]
    refine wpAnyH_ready (rs := [25]) (by kernel_rfl) (by simp) ?_
    refine AllReadyH.cons (by simp only [List.getElem?_toArray, List.getElem?_cons_succ, List.getElem?_cons_zero]; rfl) (fun K hK => ?_) AllReadyH.nil
    go_simp
    refine (eqb_true w5 A2 x.data.A x.data.n n2 x.data.n x.data.c x.data.xs hsA5 hsD5).mono ?_
    rintro e w6 ⟨rfl, k6⟩
    have hP6 := hP5.next k6
    have e6 := pr13_cells hP6.head
    have e6f := e6.2.2.2.2.2.2.2
    obtain ⟨t7, hP7⟩ := hP6.fine
    have e7 := pr13_cells hP7.head
    have hk7 : Kept [p] w6 (w6.setCell ⟨p, 6, none⟩ (.bool true)) := Kept.setCell (by simp) _
    have z6 : w6.cell? ⟨DB, 2, none⟩ = some (.slice x.data.A x.data.n x.data.c) := (k6.cell (p := ⟨DB, 2, none⟩) (World.lt_of_heap hb5) (by simp)).trans z5
    have z7 : (w6.setCell ⟨p, 6, none⟩ (.bool true)).cell? ⟨DB, 2, none⟩ = some (.slice x.data.A x.data.n x.data.c) := (hk7.cell (p := ⟨DB, 2, none⟩) (Nat.lt_of_lt_of_le (World.lt_of_heap hb5) k6.size) (by simpa using hd2.np)).trans z6
    go_wp2_with fail
    refine hK.out _ _ ?_ (fun hHeld2 => ?_)
    ·exact ⟨e6.2.2.2.1, e6.2.2.2.2.2.1, e6.2.2.2.2.2.2.1, z6⟩
    clear hK K hHeld
    have hHeld := hHeld2
    clear hHeld2
    try simp only [Act.put, List.setIfInBounds_toArray, List.set_cons_zero, List.set_cons_succ]
    refine tk (i := 26) (v := ?_) (hy := Or.inl ⟨by rfl, ?_⟩) (hS := hHeld) (h := ?_)
    rotate_left
    ·intro w hSw
     try dsimp only at hSw
     go_simp
     all_goals with_reducible rfl
    try simp only [Act.put, List.setIfInBounds_toArray, List.set_cons_zero, List.set_cons_succ]
    refine tk (i := 27) (v := ?_) (hy := Or.inl ⟨by rfl, ?_⟩) (hS := hHeld) (h := ?_)
    rotate_left
    ·intro w hSw
     try dsimp only at hSw
     go_simp
     all_goals with_reducible rfl
    try simp only [Act.put, List.setIfInBounds_toArray, List.set_cons_zero, List.set_cons_succ]
    refine tk (i := 28) (v := ?_) (hy := Or.inl ⟨by rfl, ?_⟩) (hS := hHeld) (h := ?_)
    rotate_left
    ·intro w hSw
     try dsimp only at hSw
     go_simp
     all_goals with_reducible rfl
    try simp only [Act.put, List.setIfInBounds_toArray, List.set_cons_zero, List.set_cons_succ]
    refine wpAnyH_ready (rs := [29]) (by kernel_rfl) (by simp) ?_
    refine AllReadyH.cons (by simp only [List.getElem?_toArray, List.getElem?_cons_succ, List.getElem?_cons_zero]; rfl) (fun K hK => ?_) AllReadyH.nil
    go_simp
    refine hK.out _ _ ?_ (fun hHeld2 => ?_)
    ·exact ⟨e7.2.2.2.1, e7.2.2.2.2.2.1, e7.2.2.2.2.2.2.1, z7⟩
    clear hK K hHeld
    have hHeld := hHeld2
    clear hHeld2
    try simp only [Act.put, List.setIfInBounds_toArray, List.set_cons_zero, List.set_cons_succ]
    refine wpAnyH_calm (by kernel_rfl) ?_ _
    clear hHeld
    go_wp2_with fail
    go_end0
    exact ⟨rfl, X.2.1, some X.1, ⟨_, _, _, _, _, _, _, hP7⟩, fun s' hs' => by cases hs'; exact q1, hxw, by rw [q2]; exact h.len, h.fI, h.mI⟩
 ·as_aux_lemma =>
   cases os with
   | none =>
    have hm0 : vm = .pointer none := hP1.rt
    subst hm0
    go_wp2_with fail
    go_end0
    exact ⟨rfl, d, none, hX.more⟩
   | some s =>
    obtain ⟨y1, zs, zt1, slp, stp, hvs, hS1, hj1⟩ := hP1.spP
    obtain ⟨y2, zm, zt2, sp, B, hvm, hR1, hj2⟩ := hP1.rgP
    subst hvs hvm
    have hok := h.wf s rfl
    have hlen := h.len
    have yS : y1 ∈ S := hj1 y1 (.inl rfl)
    have yG : y2 ∈ G := hj2 y2 (.inl rfl)
    have offS : ∀ j, j ∉ fp → j ∉ S → j ∉ y1 :: (fp ++ slp ++ stp) := fun j h1 h2 hm => by
     simp only [List.mem_cons, List.mem_append] at hm
     rcases hm with e | (e | e) | e
     ·exact h2 (e ▸ yS)
     ·exact h1 e
     ·exact h2 (hj1 j (.inr (.inl e)))
     ·exact h2 (hj1 j (.inr (.inr e)))
    have offG : ∀ j, j ∉ gp → j ∉ G → j ∉ y2 :: zm :: (gp ++ sp) := fun j h1 h2 hm => by
     simp only [List.mem_cons, List.mem_append] at hm
     rcases hm with e | e | e | e
     ·exact h2 (e ▸ yG)
     ·exact h2 (hj2 j (.inr (.inl e)))
     ·exact h1 e
     ·exact h2 (hj2 j (.inr (.inr e)))
    have oldO : ∀ j, j < w0.heap.size → j ∉ y1 :: (fp ++ slp ++ stp) ∧ j ∉ y2 :: zm :: (gp ++ sp) := fun j hj =>
     ⟨offS j (fun hm => by have := lf j hm; omega) (fun hm => by have := hP1.low j (.inr (.inr (.inr (.inl hm)))); omega), offG j (fun hm => by have := lg j hm; omega) (fun hm => by have := hP1.low j (.inr (.inr (.inr (.inr hm)))); omega)⟩
    have newO : ∀ j, W.heap.size ≤ j → j ∉ y1 :: (fp ++ slp ++ stp) ∧ j ∉ y2 :: zm :: (gp ++ sp) := fun j hj =>
     ⟨offS j (fun hm => by have := hP1.dv.lt j hm; omega) (fun hm => by have := hP1.ltS j hm; omega), offG j (fun hm => by have := hP1.rv.lt j hm; omega) (fun hm => by have := hP1.ltG j hm; omega)⟩
    have dbO : DB ∉ y1 :: (fp ++ slp ++ stp) ∧ DB ∉ y2 :: zm :: (gp ++ sp) := ⟨offS DB hdb.nf hdb.nS, offG DB hdb.ng hdb.nG⟩
    have y21 : ∀ j, j = y2 ∨ j = zm ∨ j ∈ sp → j ∉ y1 :: (fp ++ slp ++ stp) := fun j hj => offS j (fun hm => by have h1 := hP1.tG j (hj2 j hj); have h2 := hP1.tf j hm; omega) (fun hm => by have h1 := hP1.tG j (hj2 j hj); have h2 := hP1.tS j hm; omega)
    have gpO : ∀ j ∈ gp, j ∉ y1 :: (fp ++ slp ++ stp) := fun j hj => offS j (fun hm => by have h1 := hP1.tg j hj; have h2 := hP1.tf j hm; omega) (fun hm => by have h1 := hP1.tg j hj; have h2 := hP1.tS j hm; omega)
    obtain ⟨q1, q2, q3⟩ := hok.flush
    have hmy := hok.many; have hwf := hok.wf.fin; have hth := hok.wf.there; have hst := hok.stm; have htr := hok.turn; have hsf := hok.slf
    have hro := hok.room
    have ca := fun W' (hk : Kept [] W W') => spoolFlush_any (hS1.new hk) hok.half (by omega) (by omega) hok.newer (by omega) (by omega) (by omega)
    have hhalf := hok.half; have hnew := hok.newer
    obtain ⟨X, hX'⟩ : ∃ X, s.flush d = X := ⟨_, rfl⟩
    rw [hX'] at ca q1 q2 q3
    have HXX := Lib.hid hX'
    have hxw : X.2.1.works ≤ 10000000 * ((k + 1 : Nat) : Int) := by push_cast; omega
    clear hX' b0 b1 b2 b3 b4 newO oldO offS offG
    go_wp2_with fail
    refine wp_region_calm (S := (fun W => W.cell? ⟨p, 3, none⟩ = some (.pointer (some ⟨y1, 0, none⟩)) ∧ W.cell? ⟨p, 5, none⟩ = some (.pointer (some ⟨y2, 0, none⟩)) ∧ W.cell? ⟨p, 6, none⟩ = some (.bool true))) (by kernel_rfl) (show _ ∧ _ ∧ _ from ⟨c3, c5, c6⟩) (fun hHeld => ?_)
    refine tk (i := 0) (v := ?_) (hy := Or.inl ⟨by rfl, ?_⟩) (hS := hHeld) (h := ?_)
    rotate_left
    ·intro w hSw
     try dsimp only at hSw
     go_simp
     all_goals with_reducible rfl
    try simp only [Act.put, List.setIfInBounds_toArray, List.set_cons_zero, List.set_cons_succ]
    refine tk (i := 1) (v := ?_) (hy := Or.inl ⟨by rfl, ?_⟩) (hS := hHeld) (h := ?_)
    rotate_left
    ·intro w hSw
     try dsimp only at hSw
     go_simp
     all_goals with_reducible rfl
    try simp only [Act.put, List.setIfInBounds_toArray, List.set_cons_zero, List.set_cons_succ]
    refine tk (i := 2) (v := ?_) (hy := Or.inl ⟨by rfl, ?_⟩) (hS := hHeld) (h := ?_)
    rotate_left
    ·intro w hSw
     try dsimp only at hSw
     go_simp
     all_goals with_reducible rfl
    try simp only [Act.put, List.setIfInBounds_toArray, List.set_cons_zero, List.set_cons_succ]
    refine tk (i := 3) (v := ?_) (hy := Or.inl ⟨by rfl, ?_⟩) (hS := hHeld) (h := ?_)
    rotate_left
    ·intro w hSw
     try dsimp only at hSw
     go_simp
     all_goals with_reducible rfl
    try simp only [Act.put, List.setIfInBounds_toArray, List.set_cons_zero, List.set_cons_succ]
    refine tk (i := 4) (v := ?_) (hy := Or.inl ⟨by rfl, ?_⟩) (hS := hHeld) (h := ?_)
    rotate_left
    ·intro w hSw
     try dsimp only at hSw
     obtain ⟨s0, s1, s2⟩ := hSw
     go_simp
     all_goals with_reducible rfl
    try simp only [Act.put, List.setIfInBounds_toArray, List.set_cons_zero, List.set_cons_succ]
    refine tk (i := 5) (v := ?_) (hy := Or.inl ⟨by rfl, ?_⟩) (hS := hHeld) (h := ?_)
    rotate_left
    ·intro w hSw
     try dsimp only at hSw
     go_simp
     all_goals with_reducible rfl
    try simp only [Act.put, List.setIfInBounds_toArray, List.set_cons_zero, List.set_cons_succ]
    refine tk (i := 6) (v := ?_) (hy := Or.inl ⟨by rfl, ?_⟩) (hS := hHeld) (h := ?_)
    rotate_left
    ·intro w hSw
     try dsimp only at hSw
     go_simp
     all_goals with_reducible rfl
    try simp only [Act.put, List.setIfInBounds_toArray, List.set_cons_zero, List.set_cons_succ]
    refine tk (i := 7) (v := ?_) (hy := Or.inl ⟨by rfl, ?_⟩) (hS := hHeld) (h := ?_)
    rotate_left
    ·intro w hSw
     try dsimp only at hSw
     go_simp
     all_goals with_reducible rfl
    try simp only [Act.put, List.setIfInBounds_toArray, List.set_cons_zero, List.set_cons_succ]
    refine tk (i := 8) (v := ?_) (hy := Or.inl ⟨by rfl, ?_⟩) (hS := hHeld) (h := ?_)
    rotate_left
    ·intro w hSw
     try dsimp only at hSw
     go_simp
     all_goals with_reducible rfl
    try simp only [Act.put, List.setIfInBounds_toArray, List.set_cons_zero, List.set_cons_succ]
    refine tk (i := 9) (v := ?_) (hy := Or.inl ⟨by rfl, ?_⟩) (hS := hHeld) (h := ?_)
    rotate_left
    ·intro w hSw
     try dsimp only at hSw
     obtain ⟨s0, s1, s2⟩ := hSw
     go_simp
     all_goals with_reducible rfl
    try simp only [Act.put, List.setIfInBounds_toArray, List.set_cons_zero, List.set_cons_succ]
    refine tk (i := 11) (v := ?_) (hy := Or.inl ⟨by rfl, ?_⟩) (hS := hHeld) (h := ?_)
    rotate_left
    ·intro w hSw
     try dsimp only at hSw
     go_simp
     all_goals with_reducible rfl
    try simp only [Act.put, List.setIfInBounds_toArray, List.set_cons_zero, List.set_cons_succ]
    refine tk (i := 12) (v := ?_) (hy := Or.inl ⟨by rfl, ?_⟩) (hS := hHeld) (h := ?_)
    rotate_left
    ·intro w hSw
     try dsimp only at hSw
     go_simp
     all_goals with_reducible rfl
    try simp only [Act.put, List.setIfInBounds_toArray, List.set_cons_zero, List.set_cons_succ]
    refine tk (i := 13) (v := ?_) (hy := Or.inl ⟨by rfl, ?_⟩) (hS := hHeld) (h := ?_)
    rotate_left
    ·intro w hSw
     try dsimp only at hSw
     go_simp
     all_goals with_reducible rfl
    try simp only [Act.put, List.setIfInBounds_toArray, List.set_cons_zero, List.set_cons_succ]
    refine tk (i := 14) (v := ?_) (hy := Or.inl ⟨by rfl, ?_⟩) (hS := hHeld) (h := ?_)
    rotate_left
    ·intro w hSw
     try dsimp only at hSw
     obtain ⟨s0, s1, s2⟩ := hSw
     go_simp
     all_goals with_reducible rfl
    try simp only [Act.put, List.setIfInBounds_toArray, List.set_cons_zero, List.set_cons_succ]
    refine wpAnyH_ready (rs := [10]) (by kernel_rfl) (by simp) ?_
    refine AllReadyH.cons (by simp only [List.getElem?_toArray, List.getElem?_cons_succ, List.getElem?_cons_zero]; rfl) (fun K hK => ?_) AllReadyH.nil
    go_simp
    refine (ca _ (Kept.drew [] W)).mono ?_
    rintro e w4 ⟨rfl, fp4, slp4, stp4, hS4, hs4⟩
    obtain ⟨t4, hP4⟩ := (hP1.next (Kept.drew [] W)).log hj1 hS4 hs4
    have e4 := pr13_cells hP4.head
    have hk4 := hs4.kept
    have hR4 : RgP w4 y2 zm zt2 r f.toNat gp sp s d B := ⟨(hR1.new (Kept.drew [] W)).q.kept hk4 (y21 _ (.inl rfl)) (y21 _ (.inr (.inl rfl))) (fun j hj => y21 j (.inr (.inr hj))), (hR1.new (Kept.drew [] W)).dv.kept hk4 gpO, hR1.y1, hR1.z1, hR1.d2⟩
    go_wp2_with fail
    refine hK.out _ _ ?_ (fun hHeld2 => ?_)
    ·exact ⟨e4.2.2.2.1, e4.2.2.2.2.2.1, e4.2.2.2.2.2.2.1⟩
    clear hK K hHeld
    have hHeld := hHeld2
    clear hHeld2
    try simp only [Act.put, List.setIfInBounds_toArray, List.set_cons_zero, List.set_cons_succ]
    refine wpAnyH_ready (rs := [15]) (by kernel_rfl) (by simp) ?_
    refine AllReadyH.cons (by simp only [List.getElem?_toArray, List.getElem?_cons_succ, List.getElem?_cons_zero]; rfl) (fun K hK => ?_) AllReadyH.nil
    go_simp
    refine (ref13Flush_any hR4 hdw hhalf (by omega) (by omega) hnew (by omega) (by omega) (by omega)).mono ?_
    rintro e w5 ⟨rfl, gp5, sp5, B5, hR5, hs5⟩
    rw [HXX.out] at hR5 ⊢
    obtain ⟨t5, hP5⟩ := hP4.rlog hj2 hR5 hs5
    have e5 := pr13_cells hP5.head
    have e5f := e5.2.2.2.2.2.2.2
    obtain ⟨t7, hP7⟩ := hP5.fine
    have e7 := pr13_cells hP7.head
    go_wp2_with fail
    refine hK.out _ _ ?_ (fun hHeld2 => ?_)
    ·exact ⟨e5.2.2.2.1, e5.2.2.2.2.2.1, e5.2.2.2.2.2.2.1⟩
    clear hK K hHeld
    have hHeld := hHeld2
    clear hHeld2
    try simp only [Act.put, List.setIfInBounds_toArray, List.set_cons_zero, List.set_cons_succ]
    refine tk (i := 16) (v := ?_) (hy := Or.inl ⟨by rfl, ?_⟩) (hS := hHeld) (h := ?_)
    rotate_left
    ·intro w hSw
     try dsimp only at hSw
     go_simp
     all_goals with_reducible rfl
    try simp only [Act.put, List.setIfInBounds_toArray, List.set_cons_zero, List.set_cons_succ]
    refine tk (i := 17) (v := ?_) (hy := Or.inl ⟨by rfl, ?_⟩) (hS := hHeld) (h := ?_)
    rotate_left
    ·intro w hSw
     try dsimp only at hSw
     go_simp
     all_goals with_reducible rfl
    try simp only [Act.put, List.setIfInBounds_toArray, List.set_cons_zero, List.set_cons_succ]
    refine tk (i := 18) (v := ?_) (hy := Or.inl ⟨by rfl, ?_⟩) (hS := hHeld) (h := ?_)
    rotate_left
    ·intro w hSw
     try dsimp only at hSw
     go_simp
     all_goals with_reducible rfl
    try simp only [Act.put, List.setIfInBounds_toArray, List.set_cons_zero, List.set_cons_succ]
    refine tk (i := 19) (v := ?_) (hy := Or.inl ⟨by rfl, ?_⟩) (hS := hHeld) (h := ?_)
    rotate_left
    ·intro w hSw
     try dsimp only at hSw
     go_simp
     all_goals with_reducible rfl
    try simp only [Act.put, List.setIfInBounds_toArray, List.set_cons_zero, List.set_cons_succ]
    refine wpAnyH_ready (rs := [20]) (by kernel_rfl) (by simp) ?_
    refine AllReadyH.cons (by simp only [List.getElem?_toArray, List.getElem?_cons_succ, List.getElem?_cons_zero]; rfl) (fun K hK => ?_) AllReadyH.nil
    go_simp
    refine hK.out _ _ ?_ (fun hHeld2 => ?_)
    ·exact ⟨e7.2.2.2.1, e7.2.2.2.2.2.1, e7.2.2.2.2.2.2.1⟩
    clear hK K hHeld
    have hHeld := hHeld2
    clear hHeld2
    try simp only [Act.put, List.setIfInBounds_toArray, List.set_cons_zero, List.set_cons_succ]
    refine wpAnyH_calm (by kernel_rfl) ?_ _
    clear hHeld
    go_wp2_with fail
    go_end0
    exact ⟨rfl, X.2.1, some X.1, ⟨_, _, _, _, _, _, _, hP7⟩, fun s' hs' => by cases hs'; exact q1, hxw, by rw [q2]; exact h.len, h.fI, h.mI⟩
 ·as_aux_lemma =>
   cases os with
   | none =>
    have hm0 : vm = .pointer none := hP1.rt
    subst hm0
    go_wp2_with fail
    go_end0
    exact ⟨rfl, d, none, hX.more⟩
   | some s =>
    obtain ⟨y1, zs, zt1, slp, stp, hvs, hS1, hj1⟩ := hP1.spP
    obtain ⟨y2, zm, zt2, sp, B, hvm, hR1, hj2⟩ := hP1.rgP
    subst hvs hvm
    have hok := h.wf s rfl
    have hlen := h.len
    have yS : y1 ∈ S := hj1 y1 (.inl rfl)
    have yG : y2 ∈ G := hj2 y2 (.inl rfl)
    have offS : ∀ j, j ∉ fp → j ∉ S → j ∉ y1 :: (fp ++ slp ++ stp) := fun j h1 h2 hm => by
     simp only [List.mem_cons, List.mem_append] at hm
     rcases hm with e | (e | e) | e
     ·exact h2 (e ▸ yS)
     ·exact h1 e
     ·exact h2 (hj1 j (.inr (.inl e)))
     ·exact h2 (hj1 j (.inr (.inr e)))
    have offG : ∀ j, j ∉ gp → j ∉ G → j ∉ y2 :: zm :: (gp ++ sp) := fun j h1 h2 hm => by
     simp only [List.mem_cons, List.mem_append] at hm
     rcases hm with e | e | e | e
     ·exact h2 (e ▸ yG)
     ·exact h2 (hj2 j (.inr (.inl e)))
     ·exact h1 e
     ·exact h2 (hj2 j (.inr (.inr e)))
    have oldO : ∀ j, j < w0.heap.size → j ∉ y1 :: (fp ++ slp ++ stp) ∧ j ∉ y2 :: zm :: (gp ++ sp) := fun j hj =>
     ⟨offS j (fun hm => by have := lf j hm; omega) (fun hm => by have := hP1.low j (.inr (.inr (.inr (.inl hm)))); omega), offG j (fun hm => by have := lg j hm; omega) (fun hm => by have := hP1.low j (.inr (.inr (.inr (.inr hm)))); omega)⟩
    have newO : ∀ j, W.heap.size ≤ j → j ∉ y1 :: (fp ++ slp ++ stp) ∧ j ∉ y2 :: zm :: (gp ++ sp) := fun j hj =>
     ⟨offS j (fun hm => by have := hP1.dv.lt j hm; omega) (fun hm => by have := hP1.ltS j hm; omega), offG j (fun hm => by have := hP1.rv.lt j hm; omega) (fun hm => by have := hP1.ltG j hm; omega)⟩
    have dbO : DB ∉ y1 :: (fp ++ slp ++ stp) ∧ DB ∉ y2 :: zm :: (gp ++ sp) := ⟨offS DB hdb.nf hdb.nS, offG DB hdb.ng hdb.nG⟩
    have y21 : ∀ j, j = y2 ∨ j = zm ∨ j ∈ sp → j ∉ y1 :: (fp ++ slp ++ stp) := fun j hj => offS j (fun hm => by have h1 := hP1.tG j (hj2 j hj); have h2 := hP1.tf j hm; omega) (fun hm => by have h1 := hP1.tG j (hj2 j hj); have h2 := hP1.tS j hm; omega)
    have gpO : ∀ j ∈ gp, j ∉ y1 :: (fp ++ slp ++ stp) := fun j hj => offS j (fun hm => by have h1 := hP1.tg j hj; have h2 := hP1.tf j hm; omega) (fun hm => by have h1 := hP1.tg j hj; have h2 := hP1.tS j hm; omega)
    have hlst := hx.lst.new hP1.kept
    have hln := hxf.lst
    have cc := copies13_any W x.lstA x.lstn x.lstc x.lst hlst hln hxf.parts
    go_wp2_with fail
    refine cc.mono ?_
    rintro e w2 ⟨A2, n2, ps2, rfl, hk2, hB2, htx, hn2, hp2⟩
    have hP2 := hP1.next hk2
    have hS2 := hS1.new hk2
    have hR2 := hR1.new hk2
    have hd2 : DeAt w0 w2 DB x fp gp S G p := ⟨(hk2.block DB hDl (by simp)).trans hdb.blk, hdb.ok, hdb.nf, hdb.ng, hdb.nS, hdb.nG, hdb.np⟩
    obtain ⟨y0, ya, yb, yc, yd, ye, yg, yf⟩ := pr13_cells hP2.head
    obtain ⟨z0, z1, z2, z3, z4⟩ := hd2.cells
    have hlst2 := hlst.new hk2
    have hll : (texts x.lst).length = x.lstn := by rw [← hx.lst.len]; simp [texts]
    obtain ⟨q1, q2, q3⟩ := hok.replace (texts x.lst) (by omega)
    have htr := hok.turn; have hsf := hok.slf; have hro := hok.room
    have hhalf := hok.half; have hnew := hok.newer; have hone := hok.one
    have hAout : ∀ p', A2 = some p' → p'.block ∉ y1 :: (fp ++ slp ++ stp) ∧ p'.block ∉ y2 :: zm :: (gp ++ sp) := fun p' e => newO _ (hn2 p' e)
    have hpout : ∀ q ∈ ps2, ∀ p', q.A = some p' → p'.block ∉ y1 :: (fp ++ slp ++ stp) ∧ p'.block ∉ y2 :: zm :: (gp ++ sp) := fun q hq p' e => newO _ (hp2 q hq p' e)
    have hLout : ∀ p', x.lstA = some p' → 0 < x.lstn → p'.block ∉ y1 :: (fp ++ slp ++ stp) ∧ p'.block ∉ y2 :: zm :: (gp ++ sp) := fun p' e hn => oldO _ (hx.lst.ltA p' e hn)
    have hQout : ∀ q ∈ x.lst, ∀ p', q.A = some p' → 0 < q.n → p'.block ∉ y1 :: (fp ++ slp ++ stp) ∧ p'.block ∉ y2 :: zm :: (gp ++ sp) := fun q hq p' e hn => oldO _ ((hx.lst.all q hq).1.lt' hn e)
    have ca := fun W' (hk : Kept [] w2 W') => spoolReplace_all (hS2.new hk) hhalf hone hro hnew (by omega) (by omega) (by omega) A2 x.lstn n2 ps2 (hB2.new hk) hln (fun p' e _ => (hAout p' e).1) (fun q hq p' e _ => (hpout q hq p' e).1)
    rw [htx] at ca
    obtain ⟨X, hX'⟩ : ∃ X, s.replace d (texts x.lst) = X := ⟨_, rfl⟩
    rw [hX'] at ca q1 q2 q3
    have HXX := Lib.hid hX'
    have hxw : X.2.1.works ≤ 10000000 * ((k + 1 : Nat) : Int) := by push_cast; omega
    have HTX := Lib.hid htx
    clear hX' c0 c1 c2 c3 c4 c5 c6 cf cc b0 b1 b2 b3 b4 newO oldO offS offG htx hll
    go_wp2_with fail
    refine wp_region_calm (S := (fun W => W.cell? ⟨p, 3, none⟩ = some (.pointer (some ⟨y1, 0, none⟩)) ∧ W.cell? ⟨p, 5, none⟩ = some (.pointer (some ⟨y2, 0, none⟩)) ∧ W.cell? ⟨p, 6, none⟩ = some (.bool true) ∧ W.cell? ⟨DB, 3, none⟩ = some (.slice x.lstA x.lstn x.lstc))) (by kernel_rfl) (show _ ∧ _ ∧ _ ∧ _ from ⟨yc, ye, yg, z3⟩) (fun hHeld => ?_)
    refine tk (i := 0) (v := ?_) (hy := Or.inl ⟨by rfl, ?_⟩) (hS := hHeld) (h := ?_)
    rotate_left
    ·intro w hSw
     try dsimp only at hSw
     go_simp
     all_goals with_reducible rfl
    try simp only [Act.put, List.setIfInBounds_toArray, List.set_cons_zero, List.set_cons_succ]
    refine tk (i := 1) (v := ?_) (hy := Or.inl ⟨by rfl, ?_⟩) (hS := hHeld) (h := ?_)
    rotate_left
    ·intro w hSw
     try dsimp only at hSw
     go_simp
     all_goals with_reducible rfl
    try simp only [Act.put, List.setIfInBounds_toArray, List.set_cons_zero, List.set_cons_succ]
    refine tk (i := 2) (v := ?_) (hy := Or.inl ⟨by rfl, ?_⟩) (hS := hHeld) (h := ?_)
    rotate_left
    ·intro w hSw
     try dsimp only at hSw
     go_simp
     all_goals with_reducible rfl
    try simp only [Act.put, List.setIfInBounds_toArray, List.set_cons_zero, List.set_cons_succ]
    refine tk (i := 3) (v := ?_) (hy := Or.inl ⟨by rfl, ?_⟩) (hS := hHeld) (h := ?_)
    rotate_left
    ·intro w hSw
     try dsimp only at hSw
     go_simp
     all_goals with_reducible rfl
    try simp only [Act.put, List.setIfInBounds_toArray, List.set_cons_zero, List.set_cons_succ]
    refine tk (i := 4) (v := ?_) (hy := Or.inl ⟨by rfl, ?_⟩) (hS := hHeld) (h := ?_)
    rotate_left
    ·intro w hSw
     try dsimp only at hSw
     obtain ⟨s0, s1, s2, s3⟩ := hSw
     go_simp
     all_goals with_reducible rfl
    try simp only [Act.put, List.setIfInBounds_toArray, List.set_cons_zero, List.set_cons_succ]
    refine tk (i := 5) (v := ?_) (hy := Or.inl ⟨by rfl, ?_⟩) (hS := hHeld) (h := ?_)
    rotate_left
    ·intro w hSw
     try dsimp only at hSw
     go_simp
     all_goals with_reducible rfl
    try simp only [Act.put, List.setIfInBounds_toArray, List.set_cons_zero, List.set_cons_succ]
    refine tk (i := 6) (v := ?_) (hy := Or.inl ⟨by rfl, ?_⟩) (hS := hHeld) (h := ?_)
    rotate_left
    ·intro w hSw
     try dsimp only at hSw
     go_simp
     all_goals with_reducible rfl
    try simp only [Act.put, List.setIfInBounds_toArray, List.set_cons_zero, List.set_cons_succ]
    refine tk (i := 7) (v := ?_) (hy := Or.inl ⟨by rfl, ?_⟩) (hS := hHeld) (h := ?_)
    rotate_left
    ·intro w hSw
     try dsimp only at hSw
     go_simp
     all_goals with_reducible rfl
    try simp only [Act.put, List.setIfInBounds_toArray, List.set_cons_zero, List.set_cons_succ]
    refine tk (i := 8) (v := ?_) (hy := Or.inl ⟨by rfl, ?_⟩) (hS := hHeld) (h := ?_)
    rotate_left
    ·intro w hSw
     try dsimp only at hSw
     go_simp
     all_goals with_reducible rfl
    try simp only [Act.put, List.setIfInBounds_toArray, List.set_cons_zero, List.set_cons_succ]
    refine tk (i := 9) (v := ?_) (hy := Or.inl ⟨by rfl, ?_⟩) (hS := hHeld) (h := ?_)
    rotate_left
    ·intro w hSw
     try dsimp only at hSw
     obtain ⟨s0, s1, s2, s3⟩ := hSw
     go_simp
     all_goals with_reducible rfl
    try simp only [Act.put, List.setIfInBounds_toArray, List.set_cons_zero, List.set_cons_succ]
    refine tk (i := 10) (v := ?_) (hy := Or.inl ⟨by rfl, ?_⟩) (hS := hHeld) (h := ?_)
    rotate_left
    ·intro w hSw
     try dsimp only at hSw
     go_simp
     all_goals with_reducible rfl
    try simp only [Act.put, List.setIfInBounds_toArray, List.set_cons_zero, List.set_cons_succ]
    refine tk (i := 12) (v := ?_) (hy := Or.inl ⟨by rfl, ?_⟩) (hS := hHeld) (h := ?_)
    rotate_left
    ·intro w hSw
     try dsimp only at hSw
     go_simp
     all_goals with_reducible rfl
    try simp only [Act.put, List.setIfInBounds_toArray, List.set_cons_zero, List.set_cons_succ]
    refine tk (i := 13) (v := ?_) (hy := Or.inl ⟨by rfl, ?_⟩) (hS := hHeld) (h := ?_)
    rotate_left
    ·intro w hSw
     try dsimp only at hSw
     go_simp
     all_goals with_reducible rfl
    try simp only [Act.put, List.setIfInBounds_toArray, List.set_cons_zero, List.set_cons_succ]
    refine tk (i := 14) (v := ?_) (hy := Or.inl ⟨by rfl, ?_⟩) (hS := hHeld) (h := ?_)
    rotate_left
    ·intro w hSw
     try dsimp only at hSw
     go_simp
     all_goals with_reducible rfl
    try simp only [Act.put, List.setIfInBounds_toArray, List.set_cons_zero, List.set_cons_succ]
    refine tk (i := 15) (v := ?_) (hy := Or.inl ⟨by rfl, ?_⟩) (hS := hHeld) (h := ?_)
    rotate_left
    ·intro w hSw
     try dsimp only at hSw
     obtain ⟨s0, s1, s2, s3⟩ := hSw
     go_simp
     all_goals with_reducible rfl
    try simp only [Act.put, List.setIfInBounds_toArray, List.set_cons_zero, List.set_cons_succ]
    refine tk (i := 16) (v := ?_) (hy := Or.inl ⟨by rfl, ?_⟩) (hS := hHeld) (h := ?_)
    rotate_left
    ·intro w hSw
     try dsimp only at hSw
     go_simp
     all_goals with_reducible rfl
    try simp only [Act.put, List.setIfInBounds_toArray, List.set_cons_zero, List.set_cons_succ]
    refine tk (i := 17) (v := ?_) (hy := Or.inl ⟨by rfl, ?_⟩) (hS := hHeld) (h := ?_)
    rotate_left
    ·intro w hSw
     try dsimp only at hSw
     obtain ⟨s0, s1, s2, s3⟩ := hSw
     go_simp
     all_goals with_reducible rfl
    try simp only [Act.put, List.setIfInBounds_toArray, List.set_cons_zero, List.set_cons_succ]
    refine wpAnyH_ready (rs := [11]) (by kernel_rfl) (by simp) ?_
    refine AllReadyH.cons (by simp only [List.getElem?_toArray, List.getElem?_cons_succ, List.getElem?_cons_zero]; rfl) (fun K hK => ?_) AllReadyH.nil
    go_simp
    refine (ca _ (Kept.drew [] w2)).mono ?_
    rintro e w4 ⟨rfl, zt4, fp4, slp4, stp4, hS4, hk4, hf4, hl4, ht4⟩
    obtain ⟨t4, hP4⟩ := (hP2.next (Kept.drew [] w2)).log hj1 hS4 ⟨hk4, hf4, hl4, ht4⟩
    have e4 := pr13_cells hP4.head
    have hb4 : w4.heap[DB]? = some (.cells x.cells 47 (0, 0)) := (hk4.block DB (World.lt_of_heap hd2.blk) dbO.1).trans hd2.blk
    have z4 : w4.cell? ⟨DB, 3, none⟩ = some (.slice x.lstA x.lstn x.lstc) := by rw [blk_cell hb4]; rfl
    have hsA4 := (hB2.new (Kept.drew [] w2)).keptP hk4 (fun p' e _ => (hAout p' e).1) (fun q hq p' e _ => (hpout q hq p' e).1)
    have hsD4 := (hlst2.new (Kept.drew [] w2)).keptP hk4 (fun p' e hn => (hLout p' e hn).1) (fun q hq p' e hn => (hQout q hq p' e hn).1)
    have hR4 : RgP w4 y2 zm zt2 r f.toNat gp sp s d B := ⟨(hR2.new (Kept.drew [] w2)).q.kept hk4 (y21 _ (.inl rfl)) (y21 _ (.inr (.inl rfl))) (fun j hj => y21 j (.inr (.inr hj))), (hR2.new (Kept.drew [] w2)).dv.kept hk4 gpO, hR2.y1, hR2.z1, hR2.d2⟩
    go_wp2_with fail
    refine hK.out _ _ ?_ (fun hHeld2 => ?_)
    ·exact ⟨e4.2.2.2.1, e4.2.2.2.2.2.1, e4.2.2.2.2.2.2.1, z4⟩
    clear hK K hHeld
    have hHeld := hHeld2
    clear hHeld2
    try simp only [Act.put, List.setIfInBounds_toArray, List.set_cons_zero, List.set_cons_succ]
    refine wpAnyH_ready (rs := [18]) (by kernel_rfl) (by simp) ?_
    refine AllReadyH.cons (by simp only [List.getElem?_toArray, List.getElem?_cons_succ, List.getElem?_cons_zero]; rfl) (fun K hK => ?_) AllReadyH.nil
    go_simp
    refine (ref13Replace_any hR4 hdw hhalf hone hro hnew (by omega) (by omega) (by omega) x.lstA x.lstn x.lstc x.lst hsD4 hln (fun p' e hn => (hLout p' e hn).2) (fun q hq p' e hn => (hQout q hq p' e hn).2)).mono ?_
    rintro e w5 ⟨rfl, zt5, gp5, sp5, B5, hR5, hs5⟩
    rw [HXX.out] at hR5 ⊢
    obtain ⟨t5, hP5⟩ := hP4.rlog hj2 hR5 hs5
    have e5 := pr13_cells hP5.head
    have hk5 := hs5.kept
    have hb5 : w5.heap[DB]? = some (.cells x.cells 47 (0, 0)) := (hk5.block DB (World.lt_of_heap hb4) dbO.2).trans hb4
    have z5 : w5.cell? ⟨DB, 3, none⟩ = some (.slice x.lstA x.lstn x.lstc) := by rw [blk_cell hb5]; rfl
    have hsA5 := hsA4.keptP hk5 (fun p' e _ => (hAout p' e).2) (fun q hq p' e _ => (hpout q hq p' e).2)
    have hsD5 := hsD4.keptP hk5 (fun p' e hn => (hLout p' e hn).2) (fun q hq p' e hn => (hQout q hq p' e hn).2)
    go_wp2_with fail
    refine hK.out _ _ ?_ (fun hHeld2 => ?_)
    ·exact ⟨e5.2.2.2.1, e5.2.2.2.2.2.1, e5.2.2.2.2.2.2.1, z5⟩
    clear hK K hHeld
    have hHeld := hHeld2
    clear hHeld2
    try simp only [Act.put, List.setIfInBounds_toArray, List.set_cons_zero, List.set_cons_succ]
    refine tk (i := 19) (v := ?_) (hy := Or.inl ⟨by rfl, ?_⟩) (hS := hHeld) (h := ?_)
    rotate_left
    ·intro w hSw
     try dsimp only at hSw
     go_simp
     all_goals with_reducible rfl
    try simp only [Act.put, List.setIfInBounds_toArray, List.set_cons_zero, List.set_cons_succ]
    refine tk (i := 20) (v := ?_) (hy := Or.inl ⟨by rfl, ?_⟩) (hS := hHeld) (h := ?_)
    rotate_left
    ·intro w hSw
     try dsimp only at hSw
     go_simp
     all_goals with_reducible rfl
    try simp only [Act.put, List.setIfInBounds_toArray, List.set_cons_zero, List.set_cons_succ]
    refine tk (i := 21) (v := ?_) (hy := Or.inl ⟨by rfl, ?_⟩) (hS := hHeld) (h := ?_)
    rotate_left
    ·intro w hSw
     try dsimp only at hSw
     go_simp
     all_goals with_reducible rfl
    try simp only [Act.put, List.setIfInBounds_toArray, List.set_cons_zero, List.set_cons_succ]
    refine tk (i := 22) (v := ?_) (hy := Or.inl ⟨by rfl, ?_⟩) (hS := hHeld) (h := ?_)
    rotate_left
    ·intro w hSw
     try dsimp only at hSw
     go_simp
     all_goals with_reducible rfl
    try simp only [Act.put, List.setIfInBounds_toArray, List.set_cons_zero, List.set_cons_succ]
    refine tk (i := 23) (v := ?_) (hy := Or.inl ⟨by rfl, ?_⟩) (hS := hHeld) (h := ?_)
    rotate_left
    ·intro w hSw
     try dsimp only at hSw
     go_simp
     all_goals with_reducible rfl
    try simp only [Act.put, List.setIfInBounds_toArray, List.set_cons_zero, List.set_cons_succ]
    refine tk (i := 24) (v := ?_) (hy := Or.inl ⟨by rfl, ?_⟩) (hS := hHeld) (h := ?_)
    rotate_left
    ·intro w hSw
     try dsimp only at hSw
     obtain ⟨s0, s1, s2, s3⟩ := hSw
     go_simp
     all_goals with_reducible rfl
    try simp only [Act.put, List.setIfInBounds_toArray, List.set_cons_zero, List.set_cons_succ]
    refine wpAnyH_ready (rs := [25]) (by kernel_rfl) (by simp) ?_
    refine AllReadyH.cons (by simp only [List.getElem?_toArray, List.getElem?_cons_succ, List.getElem?_cons_zero]; rfl) (fun K hK => ?_) AllReadyH.nil
    go_simp
    refine (sameLists_true w5 A2 x.lstA x.lstn n2 x.lstn x.lstc ps2 x.lst hsA5 hsD5 HTX.out).mono ?_
    rintro e w6 ⟨rfl, q6, rfl⟩
    have k6 := Kept.drewN [] w5 q6
    have hP6 := hP5.next k6
    have e6 := pr13_cells hP6.head
    have e6f := e6.2.2.2.2.2.2.2
    obtain ⟨t7, hP7⟩ := hP6.fine
    have e7 := pr13_cells hP7.head
    have hk7 : Kept [p] (w5.drewN q6) ((w5.drewN q6).setCell ⟨p, 6, none⟩ (.bool true)) := Kept.setCell (by simp) _
    have z6 : (w5.drewN q6).cell? ⟨DB, 3, none⟩ = some (.slice x.lstA x.lstn x.lstc) := (k6.cell (p := ⟨DB, 3, none⟩) (World.lt_of_heap hb5) (by simp)).trans z5
    have z7 : ((w5.drewN q6).setCell ⟨p, 6, none⟩ (.bool true)).cell? ⟨DB, 3, none⟩ = some (.slice x.lstA x.lstn x.lstc) := (hk7.cell (p := ⟨DB, 3, none⟩) (Nat.lt_of_lt_of_le (World.lt_of_heap hb5) k6.size) (by simpa using hd2.np)).trans z6
    go_wp2_with fail
    refine hK.out _ _ ?_ (fun hHeld2 => ?_)
    ·exact ⟨e6.2.2.2.1, e6.2.2.2.2.2.1, e6.2.2.2.2.2.2.1, z6⟩
    clear hK K hHeld
    have hHeld := hHeld2
    clear hHeld2
    try simp only [Act.put, List.setIfInBounds_toArray, List.set_cons_zero, List.set_cons_succ]
    refine tk (i := 26) (v := ?_) (hy := Or.inl ⟨by rfl, ?_⟩) (hS := hHeld) (h := ?_)
    rotate_left
    ·intro w hSw
     try dsimp only at hSw
     go_simp
     all_goals with_reducible rfl
    try simp only [Act.put, List.setIfInBounds_toArray, List.set_cons_zero, List.set_cons_succ]
    refine tk (i := 27) (v := ?_) (hy := Or.inl ⟨by rfl, ?_⟩) (hS := hHeld) (h := ?_)
    rotate_left
    ·intro w hSw
     try dsimp only at hSw
     go_simp
     all_goals with_reducible rfl
    try simp only [Act.put, List.setIfInBounds_toArray, List.set_cons_zero, List.set_cons_succ]
    refine tk (i := 28) (v := ?_) (hy := Or.inl ⟨by rfl, ?_⟩) (hS := hHeld) (h := ?_)
    rotate_left
    ·intro w hSw
     try dsimp only at hSw
     go_simp
     all_goals with_reducible rfl
    try simp only [Act.put, List.setIfInBounds_toArray, List.set_cons_zero, List.set_cons_succ]
    refine wpAnyH_ready (rs := [29]) (by kernel_rfl) (by simp) ?_
    refine AllReadyH.cons (by simp only [List.getElem?_toArray, List.getElem?_cons_succ, List.getElem?_cons_zero]; rfl) (fun K hK => ?_) AllReadyH.nil
    go_simp
    refine hK.out _ _ ?_ (fun hHeld2 => ?_)
    ·exact ⟨e7.2.2.2.1, e7.2.2.2.2.2.1, e7.2.2.2.2.2.2.1, z7⟩
    clear hK K hHeld
    have hHeld := hHeld2
    clear hHeld2
    try simp only [Act.put, List.setIfInBounds_toArray, List.set_cons_zero, List.set_cons_succ]
    refine wpAnyH_calm (by kernel_rfl) ?_ _
    clear hHeld
    go_wp2_with fail
    go_end0
    exact ⟨rfl, X.2.1, some X.1, ⟨_, _, _, _, _, _, _, hP7⟩, fun s' hs' => by cases hs'; exact q1, hxw, by rw [q2]; exact h.len, h.fI, h.mI⟩
 ·as_aux_lemma =>
   have co := pairOpens13_any hX
   go_wp2_with fail
   refine co.mono ?_
   rintro e w4 ⟨rfl, os', h4⟩
   go_wp2_with fail
   go_end0
   exact ⟨rfl, d, os', h4.more⟩
 ·as_aux_lemma =>
   have ko := fun W' (hk : Kept [] w0 W') => (keep_out13 hx hk (F := fp) lf).1
   have cw4 := fun W' (hk : Kept [] W W') => crash_dv (hP1.dv.new_kept hk) x.keepA x.keepn x.keepc x.keep (ko _ (hP1.kept.trans hk)) (keep_out13 hx hP1.kept lf).2
   go_wp2_with fail
   refine wp_region_calm (S := (fun W => W.cell? ⟨p, 2, none⟩ = some (.pointer (some ⟨a, 0, none⟩)) ∧ W.cell? ⟨DB, 4, none⟩ = some (.slice x.keepA x.keepn x.keepc))) (by kernel_rfl) (show _ ∧ _ from ⟨c2, b4⟩) (fun hHeld => ?_)
   refine tk (i := 0) (v := ?_) (hy := Or.inl ⟨by rfl, ?_⟩) (hS := hHeld) (h := ?_)
   rotate_left
   ·intro w hSw
    try dsimp only at hSw
    go_simp
    all_goals with_reducible rfl
   try simp only [Act.put, List.setIfInBounds_toArray, List.set_cons_zero, List.set_cons_succ]
   refine tk (i := 1) (v := ?_) (hy := Or.inl ⟨by rfl, ?_⟩) (hS := hHeld) (h := ?_)
   rotate_left
   ·intro w hSw
    try dsimp only at hSw
    go_simp
    all_goals with_reducible rfl
   try simp only [Act.put, List.setIfInBounds_toArray, List.set_cons_zero, List.set_cons_succ]
   refine tk (i := 2) (v := ?_) (hy := Or.inl ⟨by rfl, ?_⟩) (hS := hHeld) (h := ?_)
   rotate_left
   ·intro w hSw
    try dsimp only at hSw
    go_simp
    all_goals with_reducible rfl
   try simp only [Act.put, List.setIfInBounds_toArray, List.set_cons_zero, List.set_cons_succ]
   refine tk (i := 3) (v := ?_) (hy := Or.inl ⟨by rfl, ?_⟩) (hS := hHeld) (h := ?_)
   rotate_left
   ·intro w hSw
    try dsimp only at hSw
    obtain ⟨s0, s1⟩ := hSw
    go_simp
    all_goals with_reducible rfl
   try simp only [Act.put, List.setIfInBounds_toArray, List.set_cons_zero, List.set_cons_succ]
   refine tk (i := 4) (v := ?_) (hy := Or.inl ⟨by rfl, ?_⟩) (hS := hHeld) (h := ?_)
   rotate_left
   ·intro w hSw
    try dsimp only at hSw
    go_simp
    all_goals with_reducible rfl
   try simp only [Act.put, List.setIfInBounds_toArray, List.set_cons_zero, List.set_cons_succ]
   refine tk (i := 5) (v := ?_) (hy := Or.inl ⟨by rfl, ?_⟩) (hS := hHeld) (h := ?_)
   rotate_left
   ·intro w hSw
    try dsimp only at hSw
    obtain ⟨s0, s1⟩ := hSw
    go_simp
    all_goals with_reducible rfl
   try simp only [Act.put, List.setIfInBounds_toArray, List.set_cons_zero, List.set_cons_succ]
   refine wpAnyH_ready (rs := [6]) (by kernel_rfl) (by simp) ?_
   refine AllReadyH.cons (by simp only [List.getElem?_toArray, List.getElem?_cons_succ, List.getElem?_cons_zero]; rfl) (fun K hK => ?_) AllReadyH.nil
   go_simp
   refine (cw4 _ (Kept.drew [] W)).mono ?_
   rintro e w4 ⟨rfl, fp4, hD4, hk4, hn4⟩
   obtain ⟨t4, hP4⟩ := (hP1.next (Kept.drew [] W)).dev hD4 hk4 hn4
   have hd4 := hdb.drew.dev hk4 hn4
   have y4 := pr13_cells hP4.head
   have z4 := hd4.cells
   go_wp2_with fail
   refine hK.out _ _ ?_ (fun hHeld2 => ?_)
   ·exact ⟨y4.2.2.1, z4.2.2.2.2⟩
   clear hK K hHeld
   have hHeld := hHeld2
   clear hHeld2
   try simp only [Act.put, List.setIfInBounds_toArray, List.set_cons_zero, List.set_cons_succ]
   refine wpAnyH_calm (by kernel_rfl) ?_ _
   clear hHeld cw4
   have cv5 := fun W' (hk : Kept [] w4 W') => rv_crash (hP4.rv.new_kept hk) hdw x.keepA x.keepn x.keepc x.keep (ko _ (hP4.kept.trans hk)) (keep_out13 hx hP4.kept lg).2 hx.keepI
   go_wp2_with fail
   refine wp_region_calm (S := (fun W => W.cell? ⟨p, 4, none⟩ = some (.pointer (some ⟨r, 0, none⟩)) ∧ W.cell? ⟨DB, 4, none⟩ = some (.slice x.keepA x.keepn x.keepc))) (by kernel_rfl) (show _ ∧ _ from ⟨y4.2.2.2.2.1, z4.2.2.2.2⟩) (fun hHeld => ?_)
   refine tk (i := 0) (v := ?_) (hy := Or.inl ⟨by rfl, ?_⟩) (hS := hHeld) (h := ?_)
   rotate_left
   ·intro w hSw
    try dsimp only at hSw
    go_simp
    all_goals with_reducible rfl
   try simp only [Act.put, List.setIfInBounds_toArray, List.set_cons_zero, List.set_cons_succ]
   refine tk (i := 1) (v := ?_) (hy := Or.inl ⟨by rfl, ?_⟩) (hS := hHeld) (h := ?_)
   rotate_left
   ·intro w hSw
    try dsimp only at hSw
    go_simp
    all_goals with_reducible rfl
   try simp only [Act.put, List.setIfInBounds_toArray, List.set_cons_zero, List.set_cons_succ]
   refine tk (i := 2) (v := ?_) (hy := Or.inl ⟨by rfl, ?_⟩) (hS := hHeld) (h := ?_)
   rotate_left
   ·intro w hSw
    try dsimp only at hSw
    go_simp
    all_goals with_reducible rfl
   try simp only [Act.put, List.setIfInBounds_toArray, List.set_cons_zero, List.set_cons_succ]
   refine tk (i := 3) (v := ?_) (hy := Or.inl ⟨by rfl, ?_⟩) (hS := hHeld) (h := ?_)
   rotate_left
   ·intro w hSw
    try dsimp only at hSw
    obtain ⟨s0, s1⟩ := hSw
    go_simp
    all_goals with_reducible rfl
   try simp only [Act.put, List.setIfInBounds_toArray, List.set_cons_zero, List.set_cons_succ]
   refine tk (i := 4) (v := ?_) (hy := Or.inl ⟨by rfl, ?_⟩) (hS := hHeld) (h := ?_)
   rotate_left
   ·intro w hSw
    try dsimp only at hSw
    go_simp
    all_goals with_reducible rfl
   try simp only [Act.put, List.setIfInBounds_toArray, List.set_cons_zero, List.set_cons_succ]
   refine tk (i := 5) (v := ?_) (hy := Or.inl ⟨by rfl, ?_⟩) (hS := hHeld) (h := ?_)
   rotate_left
   ·intro w hSw
    try dsimp only at hSw
    obtain ⟨s0, s1⟩ := hSw
    go_simp
    all_goals with_reducible rfl
   try simp only [Act.put, List.setIfInBounds_toArray, List.set_cons_zero, List.set_cons_succ]
   refine wpAnyH_ready (rs := [6]) (by kernel_rfl) (by simp) ?_
   refine AllReadyH.cons (by simp only [List.getElem?_toArray, List.getElem?_cons_succ, List.getElem?_cons_zero]; rfl) (fun K hK => ?_) AllReadyH.nil
   go_simp
   refine (cv5 _ (Kept.drew [] w4)).mono ?_
   rintro e w5 ⟨rfl, gp5, hR5, hk5, hn5⟩
   obtain ⟨t5, hP5⟩ := (hP4.next (Kept.drew [] w4)).ref hR5 hk5 hn5
   have hd5 := hd4.drew.ref hk5 hn5
   have y5 := pr13_cells hP5.head
   have z5 := hd5.cells
   go_wp2_with fail
   refine hK.out _ _ ?_ (fun hHeld2 => ?_)
   ·exact ⟨y5.2.2.2.2.1, z5.2.2.2.2⟩
   clear hK K hHeld
   have hHeld := hHeld2
   clear hHeld2
   try simp only [Act.put, List.setIfInBounds_toArray, List.set_cons_zero, List.set_cons_succ]
   refine wpAnyH_calm (by kernel_rfl) ?_ _
   clear hHeld cv5
   have hX5 := hX.both (k' := k + 1) (by omega) hP5 (dl2 _) (by rw [dw2]; push_cast; omega)
   obtain ⟨d5, hd5'⟩ : ∃ d5, (d.crash x.keep).1 = d5 := ⟨_, rfl⟩
   rw [hd5'] at hP5 hX5
   obtain ⟨e0, e1, e2, e3, e4, e5, e6, ef⟩ := y5
   have cb1 := boot_dv hP5.dv
   clear hd5'
   go_wp2_with fail
   refine cb1.mono ?_
   rintro e w6 ⟨rfl, fp6, hD6, hk6, hn6⟩
   obtain ⟨t6, hP6⟩ := hP5.dev hD6 hk6 hn6
   have y6 := pr13_cells hP6.head
   obtain ⟨f0, f1, f2, f3, f4, f5, f6, ff⟩ := y6
   have cb2 := rv_boot hP6.rv
   clear cb1 e0 e1 e2 e3 e4 e5 e6 ef
   go_wp2_with fail
   refine cb2.mono ?_
   rintro e w7 ⟨rfl, gp7, hR7, hk7, hn7⟩
   obtain ⟨t7, hP7⟩ := hP6.ref hR7 hk7 hn7
   have hX7 := hX5.both (k' := k + 1) (by omega) hP7 rfl hX5.works
   have y7 := pr13_cells hP7.head
   obtain ⟨g0, g1, g2, g3, g4, g5, g6, gf⟩ := y7
   have co := pairOpens13_any hX7
   clear cb2 f0 f1 f2 f3 f4 f5 f6 ff
   go_wp2_with fail
   refine co.mono ?_
   rintro e w8 ⟨rfl, os', h8⟩
   go_wp2_with fail
   go_end0
   exact ⟨rfl, _, os', h8⟩
 ·as_aux_lemma =>
   obtain ⟨n6, hn6'⟩ : ∃ n6 : Nat, x.num % 12 = n6 := ⟨(x.num % 12).toNat, by omega⟩
   have hn6l : n6 < 12 := by omega
   have cb9 := fun W => bring_any x.num 12 W (by omega) (by omega) hx.num.1 hx.num.2
   rw [hn6'] at cb9
   clear hn6'
   have ko := fun W' (hk : Kept [] w0 W') => (keep_out13 hx hk (F := fp) lf).1
   go_wp2_with fail
   refine (cb9 _).mono ?_
   rintro e w3 ⟨rfl, rfl⟩
   clear cb9
   have cw4 := fun W' (hk : Kept [] W W') => fail_dv (hP1.dv.new_kept hk) (n6 : Int) (by omega) (by omega) x.keepA x.keepn x.keepc x.keep (ko _ (hP1.kept.trans hk)) hx.keepL hx.keepI
   go_wp2_with fail
   refine wp_region_calm (S := (fun W => W.cell? ⟨p, 2, none⟩ = some (.pointer (some ⟨a, 0, none⟩)) ∧ W.cell? ⟨DB, 4, none⟩ = some (.slice x.keepA x.keepn x.keepc))) (by kernel_rfl) (show _ ∧ _ from ⟨c2, b4⟩) (fun hHeld => ?_)
   refine tk (i := 0) (v := ?_) (hy := Or.inl ⟨by rfl, ?_⟩) (hS := hHeld) (h := ?_)
   rotate_left
   ·intro w hSw
    try dsimp only at hSw
    go_simp
    all_goals with_reducible rfl
   try simp only [Act.put, List.setIfInBounds_toArray, List.set_cons_zero, List.set_cons_succ]
   refine tk (i := 1) (v := ?_) (hy := Or.inl ⟨by rfl, ?_⟩) (hS := hHeld) (h := ?_)
   rotate_left
   ·intro w hSw
    try dsimp only at hSw
    go_simp
    all_goals with_reducible rfl
   try simp only [Act.put, List.setIfInBounds_toArray, List.set_cons_zero, List.set_cons_succ]
   refine tk (i := 2) (v := ?_) (hy := Or.inl ⟨by rfl, ?_⟩) (hS := hHeld) (h := ?_)
   rotate_left
   ·intro w hSw
    try dsimp only at hSw
    go_simp
    all_goals with_reducible rfl
   try simp only [Act.put, List.setIfInBounds_toArray, List.set_cons_zero, List.set_cons_succ]
   refine tk (i := 3) (v := ?_) (hy := Or.inl ⟨by rfl, ?_⟩) (hS := hHeld) (h := ?_)
   rotate_left
   ·intro w hSw
    try dsimp only at hSw
    obtain ⟨s0, s1⟩ := hSw
    go_simp
    all_goals with_reducible rfl
   try simp only [Act.put, List.setIfInBounds_toArray, List.set_cons_zero, List.set_cons_succ]
   refine tk (i := 4) (v := ?_) (hy := Or.inl ⟨by rfl, ?_⟩) (hS := hHeld) (h := ?_)
   rotate_left
   ·intro w hSw
    try dsimp only at hSw
    go_simp
    all_goals with_reducible rfl
   try simp only [Act.put, List.setIfInBounds_toArray, List.set_cons_zero, List.set_cons_succ]
   refine tk (i := 5) (v := ?_) (hy := Or.inl ⟨by rfl, ?_⟩) (hS := hHeld) (h := ?_)
   rotate_left
   ·intro w hSw
    try dsimp only at hSw
    go_simp
    all_goals with_reducible rfl
   try simp only [Act.put, List.setIfInBounds_toArray, List.set_cons_zero, List.set_cons_succ]
   refine tk (i := 6) (v := ?_) (hy := Or.inl ⟨by rfl, ?_⟩) (hS := hHeld) (h := ?_)
   rotate_left
   ·intro w hSw
    try dsimp only at hSw
    obtain ⟨s0, s1⟩ := hSw
    go_simp
    all_goals with_reducible rfl
   try simp only [Act.put, List.setIfInBounds_toArray, List.set_cons_zero, List.set_cons_succ]
   refine wpAnyH_ready (rs := [7]) (by kernel_rfl) (by simp) ?_
   refine AllReadyH.cons (by simp only [List.getElem?_toArray, List.getElem?_cons_succ, List.getElem?_cons_zero]; rfl) (fun K hK => ?_) AllReadyH.nil
   go_simp
   refine (cw4 _ (Kept.drew [] W)).mono ?_
   rintro e w4 ⟨rfl, fp4, hD4, hk4, hn4⟩
   obtain ⟨t4, hP4⟩ := (hP1.next (Kept.drew [] W)).dev hD4 hk4 hn4
   have hd4 := hdb.drew.dev hk4 hn4
   have y4 := pr13_cells hP4.head
   have z4 := hd4.cells
   go_wp2_with fail
   refine hK.out _ _ ?_ (fun hHeld2 => ?_)
   ·exact ⟨y4.2.2.1, z4.2.2.2.2⟩
   clear hK K hHeld
   have hHeld := hHeld2
   clear hHeld2
   try simp only [Act.put, List.setIfInBounds_toArray, List.set_cons_zero, List.set_cons_succ]
   refine wpAnyH_calm (by kernel_rfl) ?_ _
   clear hHeld cw4
   have cv5 := fun W' (hk : Kept [] w4 W') => rv_fail (hP4.rv.new_kept hk) (n6 : Int) x.keepA x.keepn x.keepc x.keep (ko _ (hP4.kept.trans hk)) hx.keepL (keep_out13 hx hP4.kept lg).2 hx.keepI
   go_wp2_with fail
   refine wp_region_calm (S := (fun W => W.cell? ⟨p, 4, none⟩ = some (.pointer (some ⟨r, 0, none⟩)) ∧ W.cell? ⟨DB, 4, none⟩ = some (.slice x.keepA x.keepn x.keepc))) (by kernel_rfl) (show _ ∧ _ from ⟨y4.2.2.2.2.1, z4.2.2.2.2⟩) (fun hHeld => ?_)
   refine tk (i := 0) (v := ?_) (hy := Or.inl ⟨by rfl, ?_⟩) (hS := hHeld) (h := ?_)
   rotate_left
   ·intro w hSw
    try dsimp only at hSw
    go_simp
    all_goals with_reducible rfl
   try simp only [Act.put, List.setIfInBounds_toArray, List.set_cons_zero, List.set_cons_succ]
   refine tk (i := 1) (v := ?_) (hy := Or.inl ⟨by rfl, ?_⟩) (hS := hHeld) (h := ?_)
   rotate_left
   ·intro w hSw
    try dsimp only at hSw
    go_simp
    all_goals with_reducible rfl
   try simp only [Act.put, List.setIfInBounds_toArray, List.set_cons_zero, List.set_cons_succ]
   refine tk (i := 2) (v := ?_) (hy := Or.inl ⟨by rfl, ?_⟩) (hS := hHeld) (h := ?_)
   rotate_left
   ·intro w hSw
    try dsimp only at hSw
    go_simp
    all_goals with_reducible rfl
   try simp only [Act.put, List.setIfInBounds_toArray, List.set_cons_zero, List.set_cons_succ]
   refine tk (i := 3) (v := ?_) (hy := Or.inl ⟨by rfl, ?_⟩) (hS := hHeld) (h := ?_)
   rotate_left
   ·intro w hSw
    try dsimp only at hSw
    obtain ⟨s0, s1⟩ := hSw
    go_simp
    all_goals with_reducible rfl
   try simp only [Act.put, List.setIfInBounds_toArray, List.set_cons_zero, List.set_cons_succ]
   refine tk (i := 4) (v := ?_) (hy := Or.inl ⟨by rfl, ?_⟩) (hS := hHeld) (h := ?_)
   rotate_left
   ·intro w hSw
    try dsimp only at hSw
    go_simp
    all_goals with_reducible rfl
   try simp only [Act.put, List.setIfInBounds_toArray, List.set_cons_zero, List.set_cons_succ]
   refine tk (i := 5) (v := ?_) (hy := Or.inl ⟨by rfl, ?_⟩) (hS := hHeld) (h := ?_)
   rotate_left
   ·intro w hSw
    try dsimp only at hSw
    go_simp
    all_goals with_reducible rfl
   try simp only [Act.put, List.setIfInBounds_toArray, List.set_cons_zero, List.set_cons_succ]
   refine tk (i := 6) (v := ?_) (hy := Or.inl ⟨by rfl, ?_⟩) (hS := hHeld) (h := ?_)
   rotate_left
   ·intro w hSw
    try dsimp only at hSw
    obtain ⟨s0, s1⟩ := hSw
    go_simp
    all_goals with_reducible rfl
   try simp only [Act.put, List.setIfInBounds_toArray, List.set_cons_zero, List.set_cons_succ]
   refine wpAnyH_ready (rs := [7]) (by kernel_rfl) (by simp) ?_
   refine AllReadyH.cons (by simp only [List.getElem?_toArray, List.getElem?_cons_succ, List.getElem?_cons_zero]; rfl) (fun K hK => ?_) AllReadyH.nil
   go_simp
   refine (cv5 _ (Kept.drew [] w4)).mono ?_
   rintro e w5 ⟨rfl, gp5, hR5, hk5, hn5⟩
   obtain ⟨t5, hP5⟩ := (hP4.next (Kept.drew [] w4)).ref hR5 hk5 hn5
   have hd5 := hd4.drew.ref hk5 hn5
   have y5 := pr13_cells hP5.head
   have z5 := hd5.cells
   go_wp2_with fail
   refine hK.out _ _ ?_ (fun hHeld2 => ?_)
   ·exact ⟨y5.2.2.2.2.1, z5.2.2.2.2⟩
   clear hK K hHeld
   have hHeld := hHeld2
   clear hHeld2
   try simp only [Act.put, List.setIfInBounds_toArray, List.set_cons_zero, List.set_cons_succ]
   refine wpAnyH_calm (by kernel_rfl) ?_ _
   clear hHeld cv5
   go_wp2_with fail
   go_end0
   exact ⟨rfl, _, os, hX.both (by omega) hP5 (dl3 _ _) (by rw [dw3]; push_cast; omega)⟩
 ·as_aux_lemma =>
   have cw4 := fun W' (hk : Kept [] W W') => refuse_dv (hP1.dv.new_kept hk) x.num hx.num.1 hx.num.2
   go_wp2_with fail
   refine wp_region_calm (S := (fun W => W.cell? ⟨p, 2, none⟩ = some (.pointer (some ⟨a, 0, none⟩)) ∧ W.cell? ⟨DB, 1, none⟩ = some (.int .i64 x.num))) (by kernel_rfl) (show _ ∧ _ from ⟨c2, b1⟩) (fun hHeld => ?_)
   refine tk (i := 0) (v := ?_) (hy := Or.inl ⟨by rfl, ?_⟩) (hS := hHeld) (h := ?_)
   rotate_left
   ·intro w hSw
    try dsimp only at hSw
    go_simp
    all_goals with_reducible rfl
   try simp only [Act.put, List.setIfInBounds_toArray, List.set_cons_zero, List.set_cons_succ]
   refine tk (i := 1) (v := ?_) (hy := Or.inl ⟨by rfl, ?_⟩) (hS := hHeld) (h := ?_)
   rotate_left
   ·intro w hSw
    try dsimp only at hSw
    go_simp
    all_goals with_reducible rfl
   try simp only [Act.put, List.setIfInBounds_toArray, List.set_cons_zero, List.set_cons_succ]
   refine tk (i := 2) (v := ?_) (hy := Or.inl ⟨by rfl, ?_⟩) (hS := hHeld) (h := ?_)
   rotate_left
   ·intro w hSw
    try dsimp only at hSw
    go_simp
    all_goals with_reducible rfl
   try simp only [Act.put, List.setIfInBounds_toArray, List.set_cons_zero, List.set_cons_succ]
   refine tk (i := 3) (v := ?_) (hy := Or.inl ⟨by rfl, ?_⟩) (hS := hHeld) (h := ?_)
   rotate_left
   ·intro w hSw
    try dsimp only at hSw
    obtain ⟨s0, s1⟩ := hSw
    go_simp
    all_goals with_reducible rfl
   try simp only [Act.put, List.setIfInBounds_toArray, List.set_cons_zero, List.set_cons_succ]
   refine tk (i := 4) (v := ?_) (hy := Or.inl ⟨by rfl, ?_⟩) (hS := hHeld) (h := ?_)
   rotate_left
   ·intro w hSw
    try dsimp only at hSw
    go_simp
    all_goals with_reducible rfl
   try simp only [Act.put, List.setIfInBounds_toArray, List.set_cons_zero, List.set_cons_succ]
   refine tk (i := 5) (v := ?_) (hy := Or.inl ⟨by rfl, ?_⟩) (hS := hHeld) (h := ?_)
   rotate_left
   ·intro w hSw
    try dsimp only at hSw
    obtain ⟨s0, s1⟩ := hSw
    go_simp
    all_goals with_reducible rfl
   try simp only [Act.put, List.setIfInBounds_toArray, List.set_cons_zero, List.set_cons_succ]
   refine wpAnyH_ready (rs := [6]) (by kernel_rfl) (by simp) ?_
   refine AllReadyH.cons (by simp only [List.getElem?_toArray, List.getElem?_cons_succ, List.getElem?_cons_zero]; rfl) (fun K hK => ?_) AllReadyH.nil
   go_simp
   refine (cw4 _ (Kept.drew [] W)).mono ?_
   rintro e w4 ⟨rfl, fp4, hD4, hk4, hn4⟩
   obtain ⟨t4, hP4⟩ := (hP1.next (Kept.drew [] W)).dev hD4 hk4 hn4
   have hd4 := hdb.drew.dev hk4 hn4
   have y4 := pr13_cells hP4.head
   have z4 := hd4.cells
   go_wp2_with fail
   refine hK.out _ _ ?_ (fun hHeld2 => ?_)
   ·exact ⟨y4.2.2.1, z4.2.1⟩
   clear hK K hHeld
   have hHeld := hHeld2
   clear hHeld2
   try simp only [Act.put, List.setIfInBounds_toArray, List.set_cons_zero, List.set_cons_succ]
   refine wpAnyH_calm (by kernel_rfl) ?_ _
   clear hHeld cw4
   have cv5 := fun W' (hk : Kept [] w4 W') => rv_refuse (hP4.rv.new_kept hk) x.num
   go_wp2_with fail
   refine wp_region_calm (S := (fun W => W.cell? ⟨p, 4, none⟩ = some (.pointer (some ⟨r, 0, none⟩)) ∧ W.cell? ⟨DB, 1, none⟩ = some (.int .i64 x.num))) (by kernel_rfl) (show _ ∧ _ from ⟨y4.2.2.2.2.1, z4.2.1⟩) (fun hHeld => ?_)
   refine tk (i := 0) (v := ?_) (hy := Or.inl ⟨by rfl, ?_⟩) (hS := hHeld) (h := ?_)
   rotate_left
   ·intro w hSw
    try dsimp only at hSw
    go_simp
    all_goals with_reducible rfl
   try simp only [Act.put, List.setIfInBounds_toArray, List.set_cons_zero, List.set_cons_succ]
   refine tk (i := 1) (v := ?_) (hy := Or.inl ⟨by rfl, ?_⟩) (hS := hHeld) (h := ?_)
   rotate_left
   ·intro w hSw
    try dsimp only at hSw
    go_simp
    all_goals with_reducible rfl
   try simp only [Act.put, List.setIfInBounds_toArray, List.set_cons_zero, List.set_cons_succ]
   refine tk (i := 2) (v := ?_) (hy := Or.inl ⟨by rfl, ?_⟩) (hS := hHeld) (h := ?_)
   rotate_left
   ·intro w hSw
    try dsimp only at hSw
    go_simp
    all_goals with_reducible rfl
   try simp only [Act.put, List.setIfInBounds_toArray, List.set_cons_zero, List.set_cons_succ]
   refine tk (i := 3) (v := ?_) (hy := Or.inl ⟨by rfl, ?_⟩) (hS := hHeld) (h := ?_)
   rotate_left
   ·intro w hSw
    try dsimp only at hSw
    obtain ⟨s0, s1⟩ := hSw
    go_simp
    all_goals with_reducible rfl
   try simp only [Act.put, List.setIfInBounds_toArray, List.set_cons_zero, List.set_cons_succ]
   refine tk (i := 4) (v := ?_) (hy := Or.inl ⟨by rfl, ?_⟩) (hS := hHeld) (h := ?_)
   rotate_left
   ·intro w hSw
    try dsimp only at hSw
    go_simp
    all_goals with_reducible rfl
   try simp only [Act.put, List.setIfInBounds_toArray, List.set_cons_zero, List.set_cons_succ]
   refine tk (i := 5) (v := ?_) (hy := Or.inl ⟨by rfl, ?_⟩) (hS := hHeld) (h := ?_)
   rotate_left
   ·intro w hSw
    try dsimp only at hSw
    obtain ⟨s0, s1⟩ := hSw
    go_simp
    all_goals with_reducible rfl
   try simp only [Act.put, List.setIfInBounds_toArray, List.set_cons_zero, List.set_cons_succ]
   refine wpAnyH_ready (rs := [6]) (by kernel_rfl) (by simp) ?_
   refine AllReadyH.cons (by simp only [List.getElem?_toArray, List.getElem?_cons_succ, List.getElem?_cons_zero]; rfl) (fun K hK => ?_) AllReadyH.nil
   go_simp
   refine (cv5 _ (Kept.drew [] w4)).mono ?_
   rintro e w5 ⟨rfl, gp5, hR5, hk5, hn5⟩
   obtain ⟨t5, hP5⟩ := (hP4.next (Kept.drew [] w4)).ref hR5 hk5 hn5
   have hd5 := hd4.drew.ref hk5 hn5
   have y5 := pr13_cells hP5.head
   have z5 := hd5.cells
   go_wp2_with fail
   refine hK.out _ _ ?_ (fun hHeld2 => ?_)
   ·exact ⟨y5.2.2.2.2.1, z5.2.1⟩
   clear hK K hHeld
   have hHeld := hHeld2
   clear hHeld2
   try simp only [Act.put, List.setIfInBounds_toArray, List.set_cons_zero, List.set_cons_succ]
   refine wpAnyH_calm (by kernel_rfl) ?_ _
   clear hHeld cv5
   go_wp2_with fail
   go_end0
   exact ⟨rfl, _, os, hX.both (by omega) hP5 (dl4 _) (by rw [dw4]; push_cast; omega)⟩
 ·as_aux_lemma =>
   have co := pairTurn13_any hX hk x.num hx.num
   go_wp2_with fail
   refine co.mono ?_
   rintro e w4 ⟨rfl, d4, os4, h4⟩
   go_wp2_with fail
   go_end0
   exact ⟨rfl, d4, os4, h4⟩
end Go.Proofs.YtbnflbkaogpnbaaGreat
