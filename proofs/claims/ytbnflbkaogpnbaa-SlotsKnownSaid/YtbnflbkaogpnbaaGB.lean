/- The pair of chapter 11: step (py/gb.py prints it). -/
import Derived.Test.YtbnflbkaogpnbaaGA
namespace Go.Proofs.Ytbnflbkaogpnbaa
set_option linter.unusedVariables false
open Go.RowKit

/-- A deed in a block of its own, beside the pair. -/
structure DcAt (w0 w : World) (DB : Nat) (x : D11) (fp gp S G : List Nat) (p : Nat) : Prop where
  blk : w.heap[DB]? = some (.cells x.cells 88 (0, 0))
  ok : x.Ok w0
  nf : DB ∉ fp
  ng : DB ∉ gp
  nS : DB ∉ S
  nG : DB ∉ G
  np : DB ≠ p

theorem DcAt.cells {w0 w : World} {DB : Nat} {x : D11} {fp gp S G : List Nat} {p : Nat} (h : DcAt w0 w DB x fp gp S G p) : w.cell? ⟨DB, 0, none⟩ = some (.int .i64 x.kind) ∧ w.cell? ⟨DB, 1, none⟩ = some (.int .i64 x.num) ∧ w.cell? ⟨DB, 2, none⟩ = some (.slice x.data.A x.data.n x.data.c) ∧ w.cell? ⟨DB, 3, none⟩ = some (.slice x.keepA x.keepn x.keepc) := by
  refine ⟨?_, ?_, ?_, ?_⟩ <;> (rw [blk_cell h.blk]; rfl)

theorem DcAt.drew {w0 w : World} {DB : Nat} {x : D11} {fp gp S G : List Nat} {p : Nat} (h : DcAt w0 w DB x fp gp S G p) : DcAt w0 w.drew DB x fp gp S G p := ⟨h.blk, h.ok, h.nf, h.ng, h.nS, h.nG, h.np⟩

theorem DcAt.dev {w0 w w' : World} {DB : Nat} {x : D11} {fp gp S G fp' : List Nat} {p : Nat} (h : DcAt w0 w DB x fp gp S G p) (hk : Kept fp w w') (hn : ∀ j ∈ fp', j ∈ fp ∨ w.heap.size ≤ j) : DcAt w0 w' DB x fp' gp S G p :=
  ⟨(hk.block DB (World.lt_of_heap h.blk) h.nf).trans h.blk, h.ok, fun hm => by
    rcases hn _ hm with e | e
    · exact h.nf e
    · have := World.lt_of_heap h.blk; omega, h.ng, h.nS, h.nG, h.np⟩
theorem DcAt.ref {w0 w w' : World} {DB : Nat} {x : D11} {fp gp S G gp' : List Nat} {p : Nat} (h : DcAt w0 w DB x fp gp S G p) (hk : Kept gp w w') (hn : ∀ j ∈ gp', j ∈ gp ∨ w.heap.size ≤ j) : DcAt w0 w' DB x fp gp' S G p :=
  ⟨(hk.block DB (World.lt_of_heap h.blk) h.ng).trans h.blk, h.ok, h.nf, fun hm => by
    rcases hn _ hm with e | e
    · exact h.ng e
    · have := World.lt_of_heap h.blk; omega, h.nS, h.nG, h.np⟩


theorem PrY.more {w0 w : World} {p a r : Nat} {first : Int} {d : Dev} {os : Option Sl} {k : Nat} (h : PrY w0 w p a r first d os k) : PrY w0 w p a r first d os (k + 1) :=
  ⟨h.ex, fun s hs => by obtain ⟨g1, g2, g3⟩ := h.wf s hs; exact ⟨g1, by omega, g3⟩, by have := h.works; push_cast; omega, h.len, h.fI⟩

theorem heap_fine {w : World} {p a r : Nat} {vs vm : Value} (h : w.heap[p]? = some (.cells (prCells11 a r vs vm true) 133 (0, 0))) (b : Bool) (hb : b = true) : (w.setCell ⟨p, 4, none⟩ (.bool b)).heap[p]? = some (.cells (prCells11 a r vs vm true) 133 (0, 0)) := by
  subst hb
  exact heap_set h 4 (.bool true)

/-- The pair's fine is written. -/
theorem Pr11.fine {w0 w : World} {p a r : Nat} {d e : Dev} {os om : Option Sl} {vs vm : Value} {fp gp S G : List Nat} {t : Nat → Nat} (h : Pr11 w0 w p a r d e os om vs vm fp gp S G t) : ∃ t', Pr11 w0 (w.setCell ⟨p, 4, none⟩ (.bool true)) p a r d e os om vs vm fp gp S G t' :=
  h.put (Kept.refl _ _) (Kept.setCell (by simp) _) (heap_set h.head 4 (.bool true)) h.st h.rt (fun j hj => .inl hj) (fun j hj => .inl hj) (fun j hj hm => by have h1 := h.tS j hj; have h2 := h.tG j hm; omega) h.ltS h.ltG

/-- 'copy(b, data)', where b was made, data may be none. -/
theorem copied_any (X : World) {g n c : Nat} {A : Option Addr} {xs : List UInt8} (hg : X.heap[g]? = some (.cells (madeCells #[.int .u8 0] 128) 5 (0, 0))) (h : SlAt X A n c (u8vs xs)) : ∃ W2, (∀ ty, (Builtin.copy_ #[34, 34] ty #[.slice (some ⟨g, 0, none⟩) 128 128, .slice A n c]).run Try.prog X = .ok (goInt (Nat.min n 128)) W2) ∧
    SlAt W2 (some ⟨g, 0, none⟩) 128 128 (u8vs (pad (xs.take 128))) ∧ Kept [g] X W2 := by
  rcases A with _ | ⟨b, o, m⟩
  · obtain ⟨rfl, h0⟩ := h.none_zero
    obtain ⟨j0, hj0, ju0, ju1, ju2⟩ := info_parts info_u8
    have hr := fun ty => run_copy_none (P := Try.prog) (w := X) 34 34 ty 5 (some ⟨g, 0, none⟩) none 128 128 0 c Try.underlying34 (by rw [hj0]; simp [ju1]) rfl
    refine ⟨X, fun ty => hr ty, ?_, Kept.refl _ _⟩
    have hx0 : xs = [] := by cases xs with
      | nil => rfl
      | cons a b => simp [u8vs] at h0
    subst hx0
    rw [made128] at hg
    exact SlAt.blk hg (by simp only [u8vs, List.length_map]; exact length_zeros) (by unfold maxLen; omega)
  · by_cases h0 : n = 0
    · subst h0
      obtain ⟨j0, hj0, ju0, ju1, ju2⟩ := info_parts info_u8
      have hr := fun ty => run_copy_none (P := Try.prog) (w := X) 34 34 ty 5 (some ⟨g, 0, none⟩) (some ⟨b, o, m⟩) 128 128 0 c Try.underlying34 (by rw [hj0]; simp [ju1]) rfl
      refine ⟨X, fun ty => hr ty, ?_, Kept.refl _ _⟩
      have hx0 : xs = [] := List.eq_nil_of_length_eq_zero (by simpa [u8vs] using h.len)
      subst hx0
      rw [made128] at hg
      exact SlAt.blk hg (by simp only [u8vs, List.length_map]; exact length_zeros) (by unfold maxLen; omega)
    · obtain ⟨b', o', e, _, _⟩ := h.cells (by omega)
      cases e
      obtain ⟨W2, h1, h2, h3⟩ := copied_made X hg h
      exact ⟨W2, fun ty => h1 ty c, h2, h3⟩

def PySt (w0 : World) (p a r : Nat) (first : Int) (k : Nat) (e : Ending) (w' : World) : Prop :=
  e = .returned (.tuple #[]) ∧ ∃ d os, PrY w0 w' p a r first d os k

set_option maxHeartbeats 8000000 in
set_option maxRecDepth 100000 in
theorem pairStep11_any {w0 w : World} {p a r : Nat} {first : Int} {d : Dev} {os : Option Sl} {k : Nat} (h : PrY w0 w p a r first d os k) (hk : k ≤ 1000) (x : D11) (hx : x.Ok w0) (hxn : x.data.n ≤ 900) :
    Calls Try.prog 94 #[.pointer (some ⟨p, 0, none⟩), .int .i64 first, x.val] w (PySt w0 p a r first (k + 1)) := by
  obtain ⟨vs, vm, fp, gp, S, G, t, hP⟩ := h.ex
  obtain ⟨W, hW⟩ : ∃ W, w.alloc (.cells x.cells 88) = W := ⟨_, rfl⟩
  have kD : Kept [] w W := by rw [← hW]; exact Kept.alloc [] _ _
  have hdb : DcAt w0 W w.heap.size x fp gp S G p := ⟨by rw [← hW]; exact heap_alloc_new _ _, hx, fun hm => Nat.lt_irrefl _ (hP.dv.lt _ hm), fun hm => Nat.lt_irrefl _ (hP.rv.lt _ hm), fun hm => Nat.lt_irrefl _ (hP.ltS _ hm), fun hm => Nat.lt_irrefl _ (hP.ltG _ hm), fun e => by have := hP.pl; omega⟩
  have hX := h.next kD
  have hP1 := hP.next kD
  have hdw := hP.dv.wf
  have hwks := h.works
  have lf : ∀ j ∈ fp, w0.heap.size ≤ j := fun j hj => hP.low j (.inr (.inl hj))
  have lg : ∀ j ∈ gp, w0.heap.size ≤ j := fun j hj => hP.low j (.inr (.inr (.inl hj)))
  have hz := hP.kept.size
  obtain ⟨q, hq⟩ : ∃ q : Nat, x.kind % 6 = q := ⟨(x.kind % 6).toNat, by omega⟩
  have hq6 : q < 6 := by omega
  have cb := fun W => bring_any x.kind 6 W (by omega) (by omega) hx.kind.1 hx.kind.2
  rw [hq] at cb
  obtain ⟨dl1, dl2, dl3, dl4, dl5⟩ := dev_len d
  obtain ⟨dw1, dw2, dw3, dw4, dw5⟩ := dev_works d
  clear hP hq
  unfold D11.val D11.cells
  unfold D11.cells at hW
  go_enter Try.func94, Try.ntmps94
  go_upto_region 1 with fail
  try rw [hW]
  clear hW
  have hDl := World.lt_of_heap hdb.blk
  generalize w.heap.size = DB at *
  obtain ⟨b0, b1, b2, b3⟩ := hdb.cells
  obtain ⟨c0, c1, c2, c3, c4, cf⟩ := pr11_cells hP1.head
  go_wp2_with fail
  refine (cb _).mono ?_
  rintro e w3 ⟨rfl, rfl⟩
  clear cb
  have hqc : q = 0 ∨ q = 1 ∨ q = 2 ∨ q = 3 ∨ q = 4 ∨ q = 5 := by omega
  rcases hqc with rfl | rfl | rfl | rfl | rfl | rfl
  · as_aux_lemma =>
      have hdat := hx.data.1.kept hP1.kept (by simp)
      have hdl := hx.data.1.len
      have cc := copyBytes_any W x.data.A x.data.n x.data.c x.data.xs hdat (by omega)
      cases os with
      | none =>
        have hm0 : vm = .pointer none := hP1.rt
        subst hm0
        go_wp2_with fail
        refine cc.mono ?_
        rintro e w2 ⟨A2, n2, rfl, hown2, hbel2⟩
        have hk2 := Kept.of_below (F := []) hbel2
        obtain ⟨y0, y1, y2, y3, y4, yf⟩ := pr11_cells (hP1.next hk2).head
        clear c0 c1 c2 c3 c4 cf cc hown2 hbel2
        have h4 := hX.next hk2
        go_wp2_with fail
        go_end0
        exact ⟨rfl, d, none, h4.more⟩
      | some s =>
        obtain ⟨zs, hvs, hS⟩ := hP1.st
        obtain ⟨zm, hvm, hG, hzG⟩ := hP1.rt
        subst hvs hvm
        obtain ⟨g1, g2, g3⟩ := h.wf s rfl
        go_wp2_with fail
        refine cc.mono ?_
        rintro e w2 ⟨A2, n2, rfl, hown2, hbel2⟩
        have hk2 := Kept.of_below (F := []) hbel2
        obtain ⟨hs2, hn2⟩ := ClonePost.sl hown2
        have hl2 : ∀ p, A2 = some p → p.block < w2.heap.size := fun p e => (hown2.lt p.block (by rw [e]; rfl)).2
        have hP2 := hP1.next hk2
        have hS2 := hS.kept hk2 (by simp)
        have hG2 := hG.kept hk2 (by simp)
        have hd2 : DcAt w0 w2 DB x fp gp S G p := ⟨(hk2.block DB hDl (by simp)).trans hdb.blk, hdb.ok, hdb.nf, hdb.ng, hdb.nS, hdb.nG, hdb.np⟩
        obtain ⟨y0, y1, y2, y3, y4, yf⟩ := pr11_cells hP2.head
        obtain ⟨z0, z1, z2, z3⟩ := hd2.cells
        have hdat2 := hdat.kept hk2 (by simp)
        have hne : ∀ j ∈ S, j ∉ fp := fun j hj hm => by have h1 := hP2.tS j hj; have h2 := hP2.tf j hm; omega
        have hzg : zm ∉ gp := fun hm => by have h1 := hP2.tG zm hzG; have h2 := hP2.tg zm hm; omega
        obtain ⟨q1, q2, q3, q4, q5⟩ := save_plain s d x.data.xs g1
        have hxl : x.data.xs.length = x.data.n := by simpa [u8vs] using hdl
        have ca := fun W' (hk : Kept [] w2 W') => slotsSave_any (hP2.dv.new_kept hk) (hS2.kept hk (by simp)) hne g1 (by omega) (by omega) A2 x.data.n n2 x.data.xs (hs2.kept hk (by simp)) (by omega)
        obtain ⟨X, hX'⟩ : ∃ X, s.save d x.data.xs = X := ⟨_, rfl⟩
        rw [hX'] at ca q1 q2 q3 q4 q5
        have HXX := Lib.hid hX'
        have hxw : X.2.1.works ≤ 1000 * ((k + 1 : Nat) : Int) := by push_cast; omega
        have hAout : ∀ p', A2 = some p' → p'.block ∉ fp ++ S ∧ p'.block ∉ gp ++ G := fun p' e => by
          have h1 := hn2 p' e
          refine ⟨fun hm => ?_, fun hm => ?_⟩
          · rcases List.mem_append.mp hm with hm | hm
            · have := hP1.dv.lt _ hm; omega
            · have := hP1.ltS _ hm; omega
          · rcases List.mem_append.mp hm with hm | hm
            · have := hP1.rv.lt _ hm; omega
            · have := hP1.ltG _ hm; omega
        have hDout : ∀ p', x.data.A = some p' → 0 < x.data.n → p'.block ∉ fp ++ S ∧ p'.block ∉ gp ++ G := fun p' e hn => by
          have h1 := hx.data.1.lt' hn e
          refine ⟨fun hm => ?_, fun hm => ?_⟩
          · rcases List.mem_append.mp hm with hm | hm
            · have := hP1.low _ (.inr (.inl hm)); omega
            · have := hP1.low _ (.inr (.inr (.inr (.inl hm)))); omega
          · rcases List.mem_append.mp hm with hm | hm
            · have := hP1.low _ (.inr (.inr (.inl hm))); omega
            · have := hP1.low _ (.inr (.inr (.inr (.inr hm)))); omega
        clear hX' c0 c1 c2 c3 c4 cf cc hown2 hbel2 b0 b1 b2 b3
        go_wp2_with fail
        refine wp_region_calm (S := (fun W => W.cell? ⟨p, 1, none⟩ = some (.pointer (some ⟨zs, 0, none⟩)) ∧ W.cell? ⟨p, 3, none⟩ = some (.pointer (some ⟨zm, 0, none⟩)) ∧ W.cell? ⟨p, 4, none⟩ = some (.bool true) ∧ W.cell? ⟨DB, 2, none⟩ = some (.slice x.data.A x.data.n x.data.c))) (by kernel_rfl) (show _ ∧ _ ∧ _ ∧ _ from ⟨y1, y3, y4, z2⟩) (fun hHeld => ?_)
        refine wpAnyH_take (i := 0) (v := ?_) (by simp only [List.getElem?_toArray, List.getElem?_cons_zero]; rfl) (by kernel_rfl) (by kernel_rfl) (by kernel_rfl) (by exact fun _ _ _ h => h) (Or.inl ⟨by rfl, ?_⟩) hHeld ?_
        rotate_left
        · intro w hSw
          try dsimp only at hSw
          go_simp
          all_goals with_reducible rfl
        try simp only [Act.put, List.setIfInBounds_toArray, List.set_cons_zero, List.set_cons_succ]
        refine wpAnyH_take (i := 1) (v := ?_) (by simp only [List.getElem?_toArray, List.getElem?_cons_succ, List.getElem?_cons_zero]; rfl) (by kernel_rfl) (by kernel_rfl) (by kernel_rfl) (by exact fun _ _ _ h => h) (Or.inl ⟨by rfl, ?_⟩) hHeld ?_
        rotate_left
        · intro w hSw
          try dsimp only at hSw
          go_simp
          all_goals with_reducible rfl
        try simp only [Act.put, List.setIfInBounds_toArray, List.set_cons_zero, List.set_cons_succ]
        refine wpAnyH_take (i := 2) (v := ?_) (by simp only [List.getElem?_toArray, List.getElem?_cons_succ, List.getElem?_cons_zero]; rfl) (by kernel_rfl) (by kernel_rfl) (by kernel_rfl) (by exact fun _ _ _ h => h) (Or.inl ⟨by rfl, ?_⟩) hHeld ?_
        rotate_left
        · intro w hSw
          try dsimp only at hSw
          go_simp
          all_goals with_reducible rfl
        try simp only [Act.put, List.setIfInBounds_toArray, List.set_cons_zero, List.set_cons_succ]
        refine wpAnyH_take (i := 3) (v := ?_) (by simp only [List.getElem?_toArray, List.getElem?_cons_succ, List.getElem?_cons_zero]; rfl) (by kernel_rfl) (by kernel_rfl) (by kernel_rfl) (by exact fun _ _ _ h => h) (Or.inl ⟨by rfl, ?_⟩) hHeld ?_
        rotate_left
        · intro w hSw
          try dsimp only at hSw
          go_simp
          all_goals with_reducible rfl
        try simp only [Act.put, List.setIfInBounds_toArray, List.set_cons_zero, List.set_cons_succ]
        refine wpAnyH_take (i := 4) (v := ?_) (by simp only [List.getElem?_toArray, List.getElem?_cons_succ, List.getElem?_cons_zero]; rfl) (by kernel_rfl) (by kernel_rfl) (by kernel_rfl) (by exact fun _ _ _ h => h) (Or.inl ⟨by rfl, ?_⟩) hHeld ?_
        rotate_left
        · intro w hSw
          try dsimp only at hSw
          obtain ⟨s0, s1, s2, s3⟩ := hSw
          go_simp
          all_goals with_reducible rfl
        try simp only [Act.put, List.setIfInBounds_toArray, List.set_cons_zero, List.set_cons_succ]
        refine wpAnyH_take (i := 5) (v := ?_) (by simp only [List.getElem?_toArray, List.getElem?_cons_succ, List.getElem?_cons_zero]; rfl) (by kernel_rfl) (by kernel_rfl) (by kernel_rfl) (by exact fun _ _ _ h => h) (Or.inl ⟨by rfl, ?_⟩) hHeld ?_
        rotate_left
        · intro w hSw
          try dsimp only at hSw
          go_simp
          all_goals with_reducible rfl
        try simp only [Act.put, List.setIfInBounds_toArray, List.set_cons_zero, List.set_cons_succ]
        refine wpAnyH_take (i := 6) (v := ?_) (by simp only [List.getElem?_toArray, List.getElem?_cons_succ, List.getElem?_cons_zero]; rfl) (by kernel_rfl) (by kernel_rfl) (by kernel_rfl) (by exact fun _ _ _ h => h) (Or.inl ⟨by rfl, ?_⟩) hHeld ?_
        rotate_left
        · intro w hSw
          try dsimp only at hSw
          go_simp
          all_goals with_reducible rfl
        try simp only [Act.put, List.setIfInBounds_toArray, List.set_cons_zero, List.set_cons_succ]
        refine wpAnyH_take (i := 7) (v := ?_) (by simp only [List.getElem?_toArray, List.getElem?_cons_succ, List.getElem?_cons_zero]; rfl) (by kernel_rfl) (by kernel_rfl) (by kernel_rfl) (by exact fun _ _ _ h => h) (Or.inl ⟨by rfl, ?_⟩) hHeld ?_
        rotate_left
        · intro w hSw
          try dsimp only at hSw
          go_simp
          all_goals with_reducible rfl
        try simp only [Act.put, List.setIfInBounds_toArray, List.set_cons_zero, List.set_cons_succ]
        refine wpAnyH_take (i := 8) (v := ?_) (by simp only [List.getElem?_toArray, List.getElem?_cons_succ, List.getElem?_cons_zero]; rfl) (by kernel_rfl) (by kernel_rfl) (by kernel_rfl) (by exact fun _ _ _ h => h) (Or.inl ⟨by rfl, ?_⟩) hHeld ?_
        rotate_left
        · intro w hSw
          try dsimp only at hSw
          go_simp
          all_goals with_reducible rfl
        try simp only [Act.put, List.setIfInBounds_toArray, List.set_cons_zero, List.set_cons_succ]
        refine wpAnyH_take (i := 9) (v := ?_) (by simp only [List.getElem?_toArray, List.getElem?_cons_succ, List.getElem?_cons_zero]; rfl) (by kernel_rfl) (by kernel_rfl) (by kernel_rfl) (by exact fun _ _ _ h => h) (Or.inl ⟨by rfl, ?_⟩) hHeld ?_
        rotate_left
        · intro w hSw
          try dsimp only at hSw
          obtain ⟨s0, s1, s2, s3⟩ := hSw
          go_simp
          all_goals with_reducible rfl
        try simp only [Act.put, List.setIfInBounds_toArray, List.set_cons_zero, List.set_cons_succ]
        refine wpAnyH_take (i := 10) (v := ?_) (by simp only [List.getElem?_toArray, List.getElem?_cons_succ, List.getElem?_cons_zero]; rfl) (by kernel_rfl) (by kernel_rfl) (by kernel_rfl) (by exact fun _ _ _ h => h) (Or.inl ⟨by rfl, ?_⟩) hHeld ?_
        rotate_left
        · intro w hSw
          try dsimp only at hSw
          go_simp
          all_goals with_reducible rfl
        try simp only [Act.put, List.setIfInBounds_toArray, List.set_cons_zero, List.set_cons_succ]
        refine wpAnyH_take (i := 12) (v := ?_) (by simp only [List.getElem?_toArray, List.getElem?_cons_succ, List.getElem?_cons_zero]; rfl) (by kernel_rfl) (by kernel_rfl) (by kernel_rfl) (by exact fun _ _ _ h => h) (Or.inl ⟨by rfl, ?_⟩) hHeld ?_
        rotate_left
        · intro w hSw
          try dsimp only at hSw
          go_simp
          all_goals with_reducible rfl
        try simp only [Act.put, List.setIfInBounds_toArray, List.set_cons_zero, List.set_cons_succ]
        refine wpAnyH_take (i := 13) (v := ?_) (by simp only [List.getElem?_toArray, List.getElem?_cons_succ, List.getElem?_cons_zero]; rfl) (by kernel_rfl) (by kernel_rfl) (by kernel_rfl) (by exact fun _ _ _ h => h) (Or.inl ⟨by rfl, ?_⟩) hHeld ?_
        rotate_left
        · intro w hSw
          try dsimp only at hSw
          go_simp
          all_goals with_reducible rfl
        try simp only [Act.put, List.setIfInBounds_toArray, List.set_cons_zero, List.set_cons_succ]
        refine wpAnyH_take (i := 14) (v := ?_) (by simp only [List.getElem?_toArray, List.getElem?_cons_succ, List.getElem?_cons_zero]; rfl) (by kernel_rfl) (by kernel_rfl) (by kernel_rfl) (by exact fun _ _ _ h => h) (Or.inl ⟨by rfl, ?_⟩) hHeld ?_
        rotate_left
        · intro w hSw
          try dsimp only at hSw
          go_simp
          all_goals with_reducible rfl
        try simp only [Act.put, List.setIfInBounds_toArray, List.set_cons_zero, List.set_cons_succ]
        refine wpAnyH_take (i := 15) (v := ?_) (by simp only [List.getElem?_toArray, List.getElem?_cons_succ, List.getElem?_cons_zero]; rfl) (by kernel_rfl) (by kernel_rfl) (by kernel_rfl) (by exact fun _ _ _ h => h) (Or.inl ⟨by rfl, ?_⟩) hHeld ?_
        rotate_left
        · intro w hSw
          try dsimp only at hSw
          obtain ⟨s0, s1, s2, s3⟩ := hSw
          go_simp
          all_goals with_reducible rfl
        try simp only [Act.put, List.setIfInBounds_toArray, List.set_cons_zero, List.set_cons_succ]
        refine wpAnyH_take (i := 16) (v := ?_) (by simp only [List.getElem?_toArray, List.getElem?_cons_succ, List.getElem?_cons_zero]; rfl) (by kernel_rfl) (by kernel_rfl) (by kernel_rfl) (by exact fun _ _ _ h => h) (Or.inl ⟨by rfl, ?_⟩) hHeld ?_
        rotate_left
        · intro w hSw
          try dsimp only at hSw
          go_simp
          all_goals with_reducible rfl
        try simp only [Act.put, List.setIfInBounds_toArray, List.set_cons_zero, List.set_cons_succ]
        refine wpAnyH_take (i := 17) (v := ?_) (by simp only [List.getElem?_toArray, List.getElem?_cons_succ, List.getElem?_cons_zero]; rfl) (by kernel_rfl) (by kernel_rfl) (by kernel_rfl) (by exact fun _ _ _ h => h) (Or.inl ⟨by rfl, ?_⟩) hHeld ?_
        rotate_left
        · intro w hSw
          try dsimp only at hSw
          obtain ⟨s0, s1, s2, s3⟩ := hSw
          go_simp
          all_goals with_reducible rfl
        try simp only [Act.put, List.setIfInBounds_toArray, List.set_cons_zero, List.set_cons_succ]
        refine wpAnyH_ready (rs := [11]) (by kernel_rfl) (by simp) ?_
        refine AllReadyH.cons (by simp only [List.getElem?_toArray, List.getElem?_cons_succ, List.getElem?_cons_zero]; rfl) (fun K hK => ?_) AllReadyH.nil
        go_simp
        refine (ca _ (Kept.drew [] w2)).mono ?_
        rintro e w4 ⟨rfl, fp4, S4, hD4, hS4, hk4, hn4, hm4, ho4⟩
        obtain ⟨t4, hP4⟩ := (hP2.next (Kept.drew [] w2)).str (os' := some X.1) hD4 ⟨zs, rfl, hS4⟩ hk4 hn4 hm4 ho4 hS4.lt
        have e4 := pr11_cells hP4.head
        have hDfs : DB ∉ fp ++ S := fun hm => by rcases List.mem_append.mp hm with hm | hm; exact hd2.nf hm; exact hd2.nS hm
        have hb4 : w4.heap[DB]? = some (.cells x.cells 88 (0, 0)) := (hk4.block DB (World.lt_of_heap hd2.blk) hDfs).trans hd2.blk
        have z4 : w4.cell? ⟨DB, 2, none⟩ = some (.slice x.data.A x.data.n x.data.c) := by rw [blk_cell hb4]; rfl
        have hsA4 := (hs2.kept (Kept.drew [] w2) (by simp)).keptP hk4 (fun p' e _ => (hAout p' e).1)
        have hsD4 := (hdat2.kept (Kept.drew [] w2) (by simp)).keptP hk4 (fun p' e hn => (hDout p' e hn).1)
        have hG4 := (hG2.kept (Kept.drew [] w2) (by simp)).kept hk4 (fun hm => by rcases List.mem_append.mp hm with hm | hm; (have h1 := hP2.tG zm hzG; have h2 := hP2.tf zm hm; omega); (have h1 := hP2.tG zm hzG; have h2 := hP2.tS zm hm; omega))
        go_wp2_with fail
        refine hK.out _ _ ?_ (fun hHeld2 => ?_)
        · exact ⟨e4.2.1, e4.2.2.2.1, e4.2.2.2.2.1, z4⟩
        clear hK K hHeld
        have hHeld := hHeld2
        clear hHeld2
        try simp only [Act.put, List.setIfInBounds_toArray, List.set_cons_zero, List.set_cons_succ]
        refine wpAnyH_ready (rs := [18]) (by kernel_rfl) (by simp) ?_
        refine AllReadyH.cons (by simp only [List.getElem?_toArray, List.getElem?_cons_succ, List.getElem?_cons_zero]; rfl) (fun K hK => ?_) AllReadyH.nil
        go_simp
        refine (ref11Save_any hP4.rv hdw hG4 hzg g1 (by omega) (by omega) x.data.A x.data.n x.data.c x.data.xs hsD4 (by omega)).mono ?_
        rintro e w5 ⟨rfl, gp5, hR5, hT5, hk5, hn5⟩
        rw [HXX.out] at hR5 hT5 ⊢
        replace hk5 : Kept (gp ++ G) w4 w5 := hk5.mono (fun i hi => .inl (by simp only [List.mem_cons] at hi; rcases hi with rfl | hi; exact List.mem_append_right _ hzG; exact List.mem_append_left _ hi))
        obtain ⟨t5, hP5⟩ := hP4.rst (om' := some X.1) (G' := G) hR5 ⟨zm, rfl, hT5, hzG⟩ hk5 hn5 (fun j hj => .inl hj) (fun j hj hm => by rcases hn5 j hm with e | e; (have h1 := hP2.tG j hj; have h2 := hP2.tg j e; omega); (have := hP4.ltG j hj; omega)) (fun j hj => Nat.lt_of_lt_of_le (hP4.ltG j hj) hk5.size)
        have e5 := pr11_cells hP5.head
        have hDgg : DB ∉ gp ++ G := fun hm => by rcases List.mem_append.mp hm with hm | hm; exact hd2.ng hm; exact hd2.nG hm
        have hb5 : w5.heap[DB]? = some (.cells x.cells 88 (0, 0)) := (hk5.block DB (World.lt_of_heap hb4) hDgg).trans hb4
        have z5 : w5.cell? ⟨DB, 2, none⟩ = some (.slice x.data.A x.data.n x.data.c) := by rw [blk_cell hb5]; rfl
        have hsA5 := hsA4.keptP hk5 (fun p' e _ => (hAout p' e).2)
        have hsD5 := hsD4.keptP hk5 (fun p' e hn => (hDout p' e hn).2)
        go_wp2_with fail
        refine hK.out _ _ ?_ (fun hHeld2 => ?_)
        · exact ⟨e5.2.1, e5.2.2.2.1, e5.2.2.2.2.1, z5⟩
        clear hK K hHeld
        have hHeld := hHeld2
        clear hHeld2
        try simp only [Act.put, List.setIfInBounds_toArray, List.set_cons_zero, List.set_cons_succ]
        refine wpAnyH_take (i := 19) (v := ?_) (by simp only [List.getElem?_toArray, List.getElem?_cons_succ, List.getElem?_cons_zero]; rfl) (by kernel_rfl) (by kernel_rfl) (by kernel_rfl) (by exact fun _ _ _ h => h) (Or.inl ⟨by rfl, ?_⟩) hHeld ?_
        rotate_left
        · intro w hSw
          try dsimp only at hSw
          go_simp
          all_goals with_reducible rfl
        try simp only [Act.put, List.setIfInBounds_toArray, List.set_cons_zero, List.set_cons_succ]
        refine wpAnyH_take (i := 20) (v := ?_) (by simp only [List.getElem?_toArray, List.getElem?_cons_succ, List.getElem?_cons_zero]; rfl) (by kernel_rfl) (by kernel_rfl) (by kernel_rfl) (by exact fun _ _ _ h => h) (Or.inl ⟨by rfl, ?_⟩) hHeld ?_
        rotate_left
        · intro w hSw
          try dsimp only at hSw
          go_simp
          all_goals with_reducible rfl
        try simp only [Act.put, List.setIfInBounds_toArray, List.set_cons_zero, List.set_cons_succ]
        refine wpAnyH_take (i := 21) (v := ?_) (by simp only [List.getElem?_toArray, List.getElem?_cons_succ, List.getElem?_cons_zero]; rfl) (by kernel_rfl) (by kernel_rfl) (by kernel_rfl) (by exact fun _ _ _ h => h) (Or.inl ⟨by rfl, ?_⟩) hHeld ?_
        rotate_left
        · intro w hSw
          try dsimp only at hSw
          go_simp
          all_goals with_reducible rfl
        try simp only [Act.put, List.setIfInBounds_toArray, List.set_cons_zero, List.set_cons_succ]
        refine wpAnyH_take (i := 22) (v := ?_) (by simp only [List.getElem?_toArray, List.getElem?_cons_succ, List.getElem?_cons_zero]; rfl) (by kernel_rfl) (by kernel_rfl) (by kernel_rfl) (by exact fun _ _ _ h => h) (Or.inl ⟨by rfl, ?_⟩) hHeld ?_
        rotate_left
        · intro w hSw
          try dsimp only at hSw
          go_simp
          all_goals with_reducible rfl
        try simp only [Act.put, List.setIfInBounds_toArray, List.set_cons_zero, List.set_cons_succ]
        refine wpAnyH_take (i := 23) (v := ?_) (by simp only [List.getElem?_toArray, List.getElem?_cons_succ, List.getElem?_cons_zero]; rfl) (by kernel_rfl) (by kernel_rfl) (by kernel_rfl) (by exact fun _ _ _ h => h) (Or.inl ⟨by rfl, ?_⟩) hHeld ?_
        rotate_left
        · intro w hSw
          try dsimp only at hSw
          go_simp
          all_goals with_reducible rfl
        try simp only [Act.put, List.setIfInBounds_toArray, List.set_cons_zero, List.set_cons_succ]
        refine wpAnyH_take (i := 24) (v := ?_) (by simp only [List.getElem?_toArray, List.getElem?_cons_succ, List.getElem?_cons_zero]; rfl) (by kernel_rfl) (by kernel_rfl) (by kernel_rfl) (by exact fun _ _ _ h => h) (Or.inl ⟨by rfl, ?_⟩) hHeld ?_
        rotate_left
        · intro w hSw
          try dsimp only at hSw
          obtain ⟨s0, s1, s2, s3⟩ := hSw
          go_simp
          all_goals with_reducible rfl
        try simp only [Act.put, List.setIfInBounds_toArray, List.set_cons_zero, List.set_cons_succ]
        refine wpAnyH_ready (rs := [25]) (by kernel_rfl) (by simp) ?_
        refine AllReadyH.cons (by simp only [List.getElem?_toArray, List.getElem?_cons_succ, List.getElem?_cons_zero]; rfl) (fun K hK => ?_) AllReadyH.nil
        go_simp
        refine (eqb_true w5 A2 x.data.A x.data.n n2 x.data.n x.data.c x.data.xs hsA5 hsD5).mono ?_
        rintro e w6 ⟨rfl, k6⟩
        have hP6 := hP5.next k6
        obtain ⟨e60, e61, e62, e63, e64, e6f⟩ := pr11_cells hP6.head
        obtain ⟨t7, hP7⟩ := hP6.fine
        have h7 := pr11_cells hP7.head
        have hk7 : Kept [p] w6 (w6.setCell ⟨p, 4, none⟩ (.bool true)) := Kept.setCell (by simp) _
        have z6 : w6.cell? ⟨DB, 2, none⟩ = some (.slice x.data.A x.data.n x.data.c) := (k6.cell (p := ⟨DB, 2, none⟩) (World.lt_of_heap hb5) (by simp)).trans z5
        have z7 : (w6.setCell ⟨p, 4, none⟩ (.bool true)).cell? ⟨DB, 2, none⟩ = some (.slice x.data.A x.data.n x.data.c) := (hk7.cell (p := ⟨DB, 2, none⟩) (Nat.lt_of_lt_of_le (World.lt_of_heap hb5) k6.size) (by simpa using hd2.np)).trans z6
        go_wp2_with fail
        refine hK.out _ _ ?_ (fun hHeld2 => ?_)
        · exact ⟨e61, e63, e64, z6⟩
        clear hK K hHeld
        have hHeld := hHeld2
        clear hHeld2
        try simp only [Act.put, List.setIfInBounds_toArray, List.set_cons_zero, List.set_cons_succ]
        refine wpAnyH_take (i := 26) (v := ?_) (by simp only [List.getElem?_toArray, List.getElem?_cons_succ, List.getElem?_cons_zero]; rfl) (by kernel_rfl) (by kernel_rfl) (by kernel_rfl) (by exact fun _ _ _ h => h) (Or.inl ⟨by rfl, ?_⟩) hHeld ?_
        rotate_left
        · intro w hSw
          try dsimp only at hSw
          go_simp
          all_goals with_reducible rfl
        try simp only [Act.put, List.setIfInBounds_toArray, List.set_cons_zero, List.set_cons_succ]
        refine wpAnyH_take (i := 27) (v := ?_) (by simp only [List.getElem?_toArray, List.getElem?_cons_succ, List.getElem?_cons_zero]; rfl) (by kernel_rfl) (by kernel_rfl) (by kernel_rfl) (by exact fun _ _ _ h => h) (Or.inl ⟨by rfl, ?_⟩) hHeld ?_
        rotate_left
        · intro w hSw
          try dsimp only at hSw
          go_simp
          all_goals with_reducible rfl
        try simp only [Act.put, List.setIfInBounds_toArray, List.set_cons_zero, List.set_cons_succ]
        refine wpAnyH_take (i := 28) (v := ?_) (by simp only [List.getElem?_toArray, List.getElem?_cons_succ, List.getElem?_cons_zero]; rfl) (by kernel_rfl) (by kernel_rfl) (by kernel_rfl) (by exact fun _ _ _ h => h) (Or.inl ⟨by rfl, ?_⟩) hHeld ?_
        rotate_left
        · intro w hSw
          try dsimp only at hSw
          go_simp
          all_goals with_reducible rfl
        try simp only [Act.put, List.setIfInBounds_toArray, List.set_cons_zero, List.set_cons_succ]
        refine wpAnyH_ready (rs := [29]) (by kernel_rfl) (by simp) ?_
        refine AllReadyH.cons (by simp only [List.getElem?_toArray, List.getElem?_cons_succ, List.getElem?_cons_zero]; rfl) (fun K hK => ?_) AllReadyH.nil
        go_simp
        refine hK.out _ _ ?_ (fun hHeld2 => ?_)
        · exact ⟨h7.2.1, h7.2.2.2.1, h7.2.2.2.2.1, z7⟩
        clear hK K hHeld
        have hHeld := hHeld2
        clear hHeld2
        try simp only [Act.put, List.setIfInBounds_toArray, List.set_cons_zero, List.set_cons_succ]
        refine wpAnyH_calm (by kernel_rfl) ?_ _
        clear hHeld
        go_wp2_with fail
        go_end0
        exact ⟨rfl, X.2.1, some X.1, ⟨_, _, _, _, _, _, _, hP7⟩, fun s' hs' => by cases hs'; exact ⟨q1, by omega, by omega⟩, hxw, by rw [q4]; exact h.len, h.fI⟩
  · as_aux_lemma =>
      have co := pairOpens11_any hX
      go_wp2_with fail
      refine co.mono ?_
      rintro e w4 ⟨rfl, os', h4⟩
      go_wp2_with fail
      go_end0
      exact ⟨rfl, d, os', h4.more⟩
  · as_aux_lemma =>
      have ko := fun W' (hk : Kept [] w0 W') => (keep_out hx hk (F := fp) lf).1
      have cw4 := fun W' (hk : Kept [] W W') => crash_dv (hP1.dv.new_kept hk) x.keepA x.keepn x.keepc x.keep (ko _ (hP1.kept.trans hk)) (keep_out hx hP1.kept lf).2
      go_wp2_with fail
      refine wp_region_calm (S := (fun W => W.cell? ⟨p, 0, none⟩ = some (.pointer (some ⟨a, 0, none⟩)) ∧ W.cell? ⟨DB, 3, none⟩ = some (.slice x.keepA x.keepn x.keepc))) (by kernel_rfl) (show _ ∧ _ from ⟨c0, b3⟩) (fun hHeld => ?_)
      refine wpAnyH_take (i := 0) (v := ?_) (by simp only [List.getElem?_toArray, List.getElem?_cons_zero]; rfl) (by kernel_rfl) (by kernel_rfl) (by kernel_rfl) (by exact fun _ _ _ h => h) (Or.inl ⟨by rfl, ?_⟩) hHeld ?_
      rotate_left
      · intro w hSw
        try dsimp only at hSw
        go_simp
        all_goals with_reducible rfl
      try simp only [Act.put, List.setIfInBounds_toArray, List.set_cons_zero, List.set_cons_succ]
      refine wpAnyH_take (i := 1) (v := ?_) (by simp only [List.getElem?_toArray, List.getElem?_cons_succ, List.getElem?_cons_zero]; rfl) (by kernel_rfl) (by kernel_rfl) (by kernel_rfl) (by exact fun _ _ _ h => h) (Or.inl ⟨by rfl, ?_⟩) hHeld ?_
      rotate_left
      · intro w hSw
        try dsimp only at hSw
        go_simp
        all_goals with_reducible rfl
      try simp only [Act.put, List.setIfInBounds_toArray, List.set_cons_zero, List.set_cons_succ]
      refine wpAnyH_take (i := 2) (v := ?_) (by simp only [List.getElem?_toArray, List.getElem?_cons_succ, List.getElem?_cons_zero]; rfl) (by kernel_rfl) (by kernel_rfl) (by kernel_rfl) (by exact fun _ _ _ h => h) (Or.inl ⟨by rfl, ?_⟩) hHeld ?_
      rotate_left
      · intro w hSw
        try dsimp only at hSw
        go_simp
        all_goals with_reducible rfl
      try simp only [Act.put, List.setIfInBounds_toArray, List.set_cons_zero, List.set_cons_succ]
      refine wpAnyH_take (i := 3) (v := ?_) (by simp only [List.getElem?_toArray, List.getElem?_cons_succ, List.getElem?_cons_zero]; rfl) (by kernel_rfl) (by kernel_rfl) (by kernel_rfl) (by exact fun _ _ _ h => h) (Or.inl ⟨by rfl, ?_⟩) hHeld ?_
      rotate_left
      · intro w hSw
        try dsimp only at hSw
        obtain ⟨s0, s1⟩ := hSw
        go_simp
        all_goals with_reducible rfl
      try simp only [Act.put, List.setIfInBounds_toArray, List.set_cons_zero, List.set_cons_succ]
      refine wpAnyH_take (i := 4) (v := ?_) (by simp only [List.getElem?_toArray, List.getElem?_cons_succ, List.getElem?_cons_zero]; rfl) (by kernel_rfl) (by kernel_rfl) (by kernel_rfl) (by exact fun _ _ _ h => h) (Or.inl ⟨by rfl, ?_⟩) hHeld ?_
      rotate_left
      · intro w hSw
        try dsimp only at hSw
        go_simp
        all_goals with_reducible rfl
      try simp only [Act.put, List.setIfInBounds_toArray, List.set_cons_zero, List.set_cons_succ]
      refine wpAnyH_take (i := 5) (v := ?_) (by simp only [List.getElem?_toArray, List.getElem?_cons_succ, List.getElem?_cons_zero]; rfl) (by kernel_rfl) (by kernel_rfl) (by kernel_rfl) (by exact fun _ _ _ h => h) (Or.inl ⟨by rfl, ?_⟩) hHeld ?_
      rotate_left
      · intro w hSw
        try dsimp only at hSw
        obtain ⟨s0, s1⟩ := hSw
        go_simp
        all_goals with_reducible rfl
      try simp only [Act.put, List.setIfInBounds_toArray, List.set_cons_zero, List.set_cons_succ]
      refine wpAnyH_ready (rs := [6]) (by kernel_rfl) (by simp) ?_
      refine AllReadyH.cons (by simp only [List.getElem?_toArray, List.getElem?_cons_succ, List.getElem?_cons_zero]; rfl) (fun K hK => ?_) AllReadyH.nil
      go_simp
      refine (cw4 _ (Kept.drew [] W)).mono ?_
      rintro e w4 ⟨rfl, fp4, hD4, hk4, hn4⟩
      obtain ⟨t4, hP4⟩ := (hP1.next (Kept.drew [] W)).dev hD4 hk4 hn4
      have hd4 := hdb.drew.dev hk4 hn4
      have y4 := pr11_cells hP4.head
      have z4 := hd4.cells
      go_wp2_with fail
      refine hK.out _ _ ?_ (fun hHeld2 => ?_)
      · exact ⟨y4.1, z4.2.2.2⟩
      clear hK K hHeld
      have hHeld := hHeld2
      clear hHeld2
      try simp only [Act.put, List.setIfInBounds_toArray, List.set_cons_zero, List.set_cons_succ]
      refine wpAnyH_calm (by kernel_rfl) ?_ _
      clear hHeld cw4
      have cv5 := fun W' (hk : Kept [] w4 W') => rv_crash (hP4.rv.new_kept hk) hdw x.keepA x.keepn x.keepc x.keep (ko _ (hP4.kept.trans hk)) (keep_out hx hP4.kept lg).2 hx.keepI
      go_wp2_with fail
      refine wp_region_calm (S := (fun W => W.cell? ⟨p, 2, none⟩ = some (.pointer (some ⟨r, 0, none⟩)) ∧ W.cell? ⟨DB, 3, none⟩ = some (.slice x.keepA x.keepn x.keepc))) (by kernel_rfl) (show _ ∧ _ from ⟨y4.2.2.1, z4.2.2.2⟩) (fun hHeld => ?_)
      refine wpAnyH_take (i := 0) (v := ?_) (by simp only [List.getElem?_toArray, List.getElem?_cons_zero]; rfl) (by kernel_rfl) (by kernel_rfl) (by kernel_rfl) (by exact fun _ _ _ h => h) (Or.inl ⟨by rfl, ?_⟩) hHeld ?_
      rotate_left
      · intro w hSw
        try dsimp only at hSw
        go_simp
        all_goals with_reducible rfl
      try simp only [Act.put, List.setIfInBounds_toArray, List.set_cons_zero, List.set_cons_succ]
      refine wpAnyH_take (i := 1) (v := ?_) (by simp only [List.getElem?_toArray, List.getElem?_cons_succ, List.getElem?_cons_zero]; rfl) (by kernel_rfl) (by kernel_rfl) (by kernel_rfl) (by exact fun _ _ _ h => h) (Or.inl ⟨by rfl, ?_⟩) hHeld ?_
      rotate_left
      · intro w hSw
        try dsimp only at hSw
        go_simp
        all_goals with_reducible rfl
      try simp only [Act.put, List.setIfInBounds_toArray, List.set_cons_zero, List.set_cons_succ]
      refine wpAnyH_take (i := 2) (v := ?_) (by simp only [List.getElem?_toArray, List.getElem?_cons_succ, List.getElem?_cons_zero]; rfl) (by kernel_rfl) (by kernel_rfl) (by kernel_rfl) (by exact fun _ _ _ h => h) (Or.inl ⟨by rfl, ?_⟩) hHeld ?_
      rotate_left
      · intro w hSw
        try dsimp only at hSw
        go_simp
        all_goals with_reducible rfl
      try simp only [Act.put, List.setIfInBounds_toArray, List.set_cons_zero, List.set_cons_succ]
      refine wpAnyH_take (i := 3) (v := ?_) (by simp only [List.getElem?_toArray, List.getElem?_cons_succ, List.getElem?_cons_zero]; rfl) (by kernel_rfl) (by kernel_rfl) (by kernel_rfl) (by exact fun _ _ _ h => h) (Or.inl ⟨by rfl, ?_⟩) hHeld ?_
      rotate_left
      · intro w hSw
        try dsimp only at hSw
        obtain ⟨s0, s1⟩ := hSw
        go_simp
        all_goals with_reducible rfl
      try simp only [Act.put, List.setIfInBounds_toArray, List.set_cons_zero, List.set_cons_succ]
      refine wpAnyH_take (i := 4) (v := ?_) (by simp only [List.getElem?_toArray, List.getElem?_cons_succ, List.getElem?_cons_zero]; rfl) (by kernel_rfl) (by kernel_rfl) (by kernel_rfl) (by exact fun _ _ _ h => h) (Or.inl ⟨by rfl, ?_⟩) hHeld ?_
      rotate_left
      · intro w hSw
        try dsimp only at hSw
        go_simp
        all_goals with_reducible rfl
      try simp only [Act.put, List.setIfInBounds_toArray, List.set_cons_zero, List.set_cons_succ]
      refine wpAnyH_take (i := 5) (v := ?_) (by simp only [List.getElem?_toArray, List.getElem?_cons_succ, List.getElem?_cons_zero]; rfl) (by kernel_rfl) (by kernel_rfl) (by kernel_rfl) (by exact fun _ _ _ h => h) (Or.inl ⟨by rfl, ?_⟩) hHeld ?_
      rotate_left
      · intro w hSw
        try dsimp only at hSw
        obtain ⟨s0, s1⟩ := hSw
        go_simp
        all_goals with_reducible rfl
      try simp only [Act.put, List.setIfInBounds_toArray, List.set_cons_zero, List.set_cons_succ]
      refine wpAnyH_ready (rs := [6]) (by kernel_rfl) (by simp) ?_
      refine AllReadyH.cons (by simp only [List.getElem?_toArray, List.getElem?_cons_succ, List.getElem?_cons_zero]; rfl) (fun K hK => ?_) AllReadyH.nil
      go_simp
      refine (cv5 _ (Kept.drew [] w4)).mono ?_
      rintro e w5 ⟨rfl, gp5, hR5, hk5, hn5⟩
      obtain ⟨t5, hP5⟩ := (hP4.next (Kept.drew [] w4)).ref hR5 hk5 hn5
      have hd5 := hd4.drew.ref hk5 hn5
      have y5 := pr11_cells hP5.head
      have z5 := hd5.cells
      go_wp2_with fail
      refine hK.out _ _ ?_ (fun hHeld2 => ?_)
      · exact ⟨y5.2.2.1, z5.2.2.2⟩
      clear hK K hHeld
      have hHeld := hHeld2
      clear hHeld2
      try simp only [Act.put, List.setIfInBounds_toArray, List.set_cons_zero, List.set_cons_succ]
      refine wpAnyH_calm (by kernel_rfl) ?_ _
      clear hHeld cv5
      have hX5 := hX.both (k' := k + 1) (by omega) hP5 (dl2 _) (by rw [dw2]; push_cast; omega)
      obtain ⟨d5, hd5'⟩ : ∃ d5, (d.crash x.keep).1 = d5 := ⟨_, rfl⟩
      rw [hd5'] at hP5 hX5
      obtain ⟨e0, e1, e2, e3, e4, ef⟩ := y5
      have cb1 := boot_dv hP5.dv
      clear hd5'
      go_wp2_with fail
      refine cb1.mono ?_
      rintro e w6 ⟨rfl, fp6, hD6, hk6, hn6⟩
      obtain ⟨t6, hP6⟩ := hP5.dev hD6 hk6 hn6
      have y6 := pr11_cells hP6.head
      obtain ⟨f0, f1, f2, f3, f4, ff⟩ := y6
      have cb2 := rv_boot hP6.rv
      clear cb1 e0 e1 e2 e3 e4 ef
      go_wp2_with fail
      refine cb2.mono ?_
      rintro e w7 ⟨rfl, gp7, hR7, hk7, hn7⟩
      obtain ⟨t7, hP7⟩ := hP6.ref hR7 hk7 hn7
      have hX7 := hX5.both (k' := k + 1) (by omega) hP7 rfl hX5.works
      have y7 := pr11_cells hP7.head
      obtain ⟨g0, g1, g2, g3, g4, gf⟩ := y7
      have co := pairOpens11_any hX7
      clear cb2 f0 f1 f2 f3 f4 ff
      go_wp2_with fail
      refine co.mono ?_
      rintro e w8 ⟨rfl, os', h8⟩
      go_wp2_with fail
      go_end0
      exact ⟨rfl, _, os', h8⟩
  · as_aux_lemma =>
      obtain ⟨n6, hn6'⟩ : ∃ n6 : Nat, x.num % 6 = n6 := ⟨(x.num % 6).toNat, by omega⟩
      have hn6l : n6 < 6 := by omega
      have cb9 := fun W => bring_any x.num 6 W (by omega) (by omega) hx.num.1 hx.num.2
      rw [hn6'] at cb9
      clear hn6'
      have ko := fun W' (hk : Kept [] w0 W') => (keep_out hx hk (F := fp) lf).1
      go_wp2_with fail
      refine (cb9 _).mono ?_
      rintro e w3 ⟨rfl, rfl⟩
      clear cb9
      have cw4 := fun W' (hk : Kept [] W W') => fail_dv (hP1.dv.new_kept hk) (n6 : Int) (by omega) (by omega) x.keepA x.keepn x.keepc x.keep (ko _ (hP1.kept.trans hk)) hx.keepL hx.keepI
      go_wp2_with fail
      refine wp_region_calm (S := (fun W => W.cell? ⟨p, 0, none⟩ = some (.pointer (some ⟨a, 0, none⟩)) ∧ W.cell? ⟨DB, 3, none⟩ = some (.slice x.keepA x.keepn x.keepc))) (by kernel_rfl) (show _ ∧ _ from ⟨c0, b3⟩) (fun hHeld => ?_)
      refine wpAnyH_take (i := 0) (v := ?_) (by simp only [List.getElem?_toArray, List.getElem?_cons_zero]; rfl) (by kernel_rfl) (by kernel_rfl) (by kernel_rfl) (by exact fun _ _ _ h => h) (Or.inl ⟨by rfl, ?_⟩) hHeld ?_
      rotate_left
      · intro w hSw
        try dsimp only at hSw
        go_simp
        all_goals with_reducible rfl
      try simp only [Act.put, List.setIfInBounds_toArray, List.set_cons_zero, List.set_cons_succ]
      refine wpAnyH_take (i := 1) (v := ?_) (by simp only [List.getElem?_toArray, List.getElem?_cons_succ, List.getElem?_cons_zero]; rfl) (by kernel_rfl) (by kernel_rfl) (by kernel_rfl) (by exact fun _ _ _ h => h) (Or.inl ⟨by rfl, ?_⟩) hHeld ?_
      rotate_left
      · intro w hSw
        try dsimp only at hSw
        go_simp
        all_goals with_reducible rfl
      try simp only [Act.put, List.setIfInBounds_toArray, List.set_cons_zero, List.set_cons_succ]
      refine wpAnyH_take (i := 2) (v := ?_) (by simp only [List.getElem?_toArray, List.getElem?_cons_succ, List.getElem?_cons_zero]; rfl) (by kernel_rfl) (by kernel_rfl) (by kernel_rfl) (by exact fun _ _ _ h => h) (Or.inl ⟨by rfl, ?_⟩) hHeld ?_
      rotate_left
      · intro w hSw
        try dsimp only at hSw
        go_simp
        all_goals with_reducible rfl
      try simp only [Act.put, List.setIfInBounds_toArray, List.set_cons_zero, List.set_cons_succ]
      refine wpAnyH_take (i := 3) (v := ?_) (by simp only [List.getElem?_toArray, List.getElem?_cons_succ, List.getElem?_cons_zero]; rfl) (by kernel_rfl) (by kernel_rfl) (by kernel_rfl) (by exact fun _ _ _ h => h) (Or.inl ⟨by rfl, ?_⟩) hHeld ?_
      rotate_left
      · intro w hSw
        try dsimp only at hSw
        obtain ⟨s0, s1⟩ := hSw
        go_simp
        all_goals with_reducible rfl
      try simp only [Act.put, List.setIfInBounds_toArray, List.set_cons_zero, List.set_cons_succ]
      refine wpAnyH_take (i := 4) (v := ?_) (by simp only [List.getElem?_toArray, List.getElem?_cons_succ, List.getElem?_cons_zero]; rfl) (by kernel_rfl) (by kernel_rfl) (by kernel_rfl) (by exact fun _ _ _ h => h) (Or.inl ⟨by rfl, ?_⟩) hHeld ?_
      rotate_left
      · intro w hSw
        try dsimp only at hSw
        go_simp
        all_goals with_reducible rfl
      try simp only [Act.put, List.setIfInBounds_toArray, List.set_cons_zero, List.set_cons_succ]
      refine wpAnyH_take (i := 5) (v := ?_) (by simp only [List.getElem?_toArray, List.getElem?_cons_succ, List.getElem?_cons_zero]; rfl) (by kernel_rfl) (by kernel_rfl) (by kernel_rfl) (by exact fun _ _ _ h => h) (Or.inl ⟨by rfl, ?_⟩) hHeld ?_
      rotate_left
      · intro w hSw
        try dsimp only at hSw
        go_simp
        all_goals with_reducible rfl
      try simp only [Act.put, List.setIfInBounds_toArray, List.set_cons_zero, List.set_cons_succ]
      refine wpAnyH_take (i := 6) (v := ?_) (by simp only [List.getElem?_toArray, List.getElem?_cons_succ, List.getElem?_cons_zero]; rfl) (by kernel_rfl) (by kernel_rfl) (by kernel_rfl) (by exact fun _ _ _ h => h) (Or.inl ⟨by rfl, ?_⟩) hHeld ?_
      rotate_left
      · intro w hSw
        try dsimp only at hSw
        obtain ⟨s0, s1⟩ := hSw
        go_simp
        all_goals with_reducible rfl
      try simp only [Act.put, List.setIfInBounds_toArray, List.set_cons_zero, List.set_cons_succ]
      refine wpAnyH_ready (rs := [7]) (by kernel_rfl) (by simp) ?_
      refine AllReadyH.cons (by simp only [List.getElem?_toArray, List.getElem?_cons_succ, List.getElem?_cons_zero]; rfl) (fun K hK => ?_) AllReadyH.nil
      go_simp
      refine (cw4 _ (Kept.drew [] W)).mono ?_
      rintro e w4 ⟨rfl, fp4, hD4, hk4, hn4⟩
      obtain ⟨t4, hP4⟩ := (hP1.next (Kept.drew [] W)).dev hD4 hk4 hn4
      have hd4 := hdb.drew.dev hk4 hn4
      have y4 := pr11_cells hP4.head
      have z4 := hd4.cells
      go_wp2_with fail
      refine hK.out _ _ ?_ (fun hHeld2 => ?_)
      · exact ⟨y4.1, z4.2.2.2⟩
      clear hK K hHeld
      have hHeld := hHeld2
      clear hHeld2
      try simp only [Act.put, List.setIfInBounds_toArray, List.set_cons_zero, List.set_cons_succ]
      refine wpAnyH_calm (by kernel_rfl) ?_ _
      clear hHeld cw4
      have cv5 := fun W' (hk : Kept [] w4 W') => rv_fail (hP4.rv.new_kept hk) (n6 : Int) x.keepA x.keepn x.keepc x.keep (ko _ (hP4.kept.trans hk)) hx.keepL (keep_out hx hP4.kept lg).2 hx.keepI
      go_wp2_with fail
      refine wp_region_calm (S := (fun W => W.cell? ⟨p, 2, none⟩ = some (.pointer (some ⟨r, 0, none⟩)) ∧ W.cell? ⟨DB, 3, none⟩ = some (.slice x.keepA x.keepn x.keepc))) (by kernel_rfl) (show _ ∧ _ from ⟨y4.2.2.1, z4.2.2.2⟩) (fun hHeld => ?_)
      refine wpAnyH_take (i := 0) (v := ?_) (by simp only [List.getElem?_toArray, List.getElem?_cons_zero]; rfl) (by kernel_rfl) (by kernel_rfl) (by kernel_rfl) (by exact fun _ _ _ h => h) (Or.inl ⟨by rfl, ?_⟩) hHeld ?_
      rotate_left
      · intro w hSw
        try dsimp only at hSw
        go_simp
        all_goals with_reducible rfl
      try simp only [Act.put, List.setIfInBounds_toArray, List.set_cons_zero, List.set_cons_succ]
      refine wpAnyH_take (i := 1) (v := ?_) (by simp only [List.getElem?_toArray, List.getElem?_cons_succ, List.getElem?_cons_zero]; rfl) (by kernel_rfl) (by kernel_rfl) (by kernel_rfl) (by exact fun _ _ _ h => h) (Or.inl ⟨by rfl, ?_⟩) hHeld ?_
      rotate_left
      · intro w hSw
        try dsimp only at hSw
        go_simp
        all_goals with_reducible rfl
      try simp only [Act.put, List.setIfInBounds_toArray, List.set_cons_zero, List.set_cons_succ]
      refine wpAnyH_take (i := 2) (v := ?_) (by simp only [List.getElem?_toArray, List.getElem?_cons_succ, List.getElem?_cons_zero]; rfl) (by kernel_rfl) (by kernel_rfl) (by kernel_rfl) (by exact fun _ _ _ h => h) (Or.inl ⟨by rfl, ?_⟩) hHeld ?_
      rotate_left
      · intro w hSw
        try dsimp only at hSw
        go_simp
        all_goals with_reducible rfl
      try simp only [Act.put, List.setIfInBounds_toArray, List.set_cons_zero, List.set_cons_succ]
      refine wpAnyH_take (i := 3) (v := ?_) (by simp only [List.getElem?_toArray, List.getElem?_cons_succ, List.getElem?_cons_zero]; rfl) (by kernel_rfl) (by kernel_rfl) (by kernel_rfl) (by exact fun _ _ _ h => h) (Or.inl ⟨by rfl, ?_⟩) hHeld ?_
      rotate_left
      · intro w hSw
        try dsimp only at hSw
        obtain ⟨s0, s1⟩ := hSw
        go_simp
        all_goals with_reducible rfl
      try simp only [Act.put, List.setIfInBounds_toArray, List.set_cons_zero, List.set_cons_succ]
      refine wpAnyH_take (i := 4) (v := ?_) (by simp only [List.getElem?_toArray, List.getElem?_cons_succ, List.getElem?_cons_zero]; rfl) (by kernel_rfl) (by kernel_rfl) (by kernel_rfl) (by exact fun _ _ _ h => h) (Or.inl ⟨by rfl, ?_⟩) hHeld ?_
      rotate_left
      · intro w hSw
        try dsimp only at hSw
        go_simp
        all_goals with_reducible rfl
      try simp only [Act.put, List.setIfInBounds_toArray, List.set_cons_zero, List.set_cons_succ]
      refine wpAnyH_take (i := 5) (v := ?_) (by simp only [List.getElem?_toArray, List.getElem?_cons_succ, List.getElem?_cons_zero]; rfl) (by kernel_rfl) (by kernel_rfl) (by kernel_rfl) (by exact fun _ _ _ h => h) (Or.inl ⟨by rfl, ?_⟩) hHeld ?_
      rotate_left
      · intro w hSw
        try dsimp only at hSw
        go_simp
        all_goals with_reducible rfl
      try simp only [Act.put, List.setIfInBounds_toArray, List.set_cons_zero, List.set_cons_succ]
      refine wpAnyH_take (i := 6) (v := ?_) (by simp only [List.getElem?_toArray, List.getElem?_cons_succ, List.getElem?_cons_zero]; rfl) (by kernel_rfl) (by kernel_rfl) (by kernel_rfl) (by exact fun _ _ _ h => h) (Or.inl ⟨by rfl, ?_⟩) hHeld ?_
      rotate_left
      · intro w hSw
        try dsimp only at hSw
        obtain ⟨s0, s1⟩ := hSw
        go_simp
        all_goals with_reducible rfl
      try simp only [Act.put, List.setIfInBounds_toArray, List.set_cons_zero, List.set_cons_succ]
      refine wpAnyH_ready (rs := [7]) (by kernel_rfl) (by simp) ?_
      refine AllReadyH.cons (by simp only [List.getElem?_toArray, List.getElem?_cons_succ, List.getElem?_cons_zero]; rfl) (fun K hK => ?_) AllReadyH.nil
      go_simp
      refine (cv5 _ (Kept.drew [] w4)).mono ?_
      rintro e w5 ⟨rfl, gp5, hR5, hk5, hn5⟩
      obtain ⟨t5, hP5⟩ := (hP4.next (Kept.drew [] w4)).ref hR5 hk5 hn5
      have hd5 := hd4.drew.ref hk5 hn5
      have y5 := pr11_cells hP5.head
      have z5 := hd5.cells
      go_wp2_with fail
      refine hK.out _ _ ?_ (fun hHeld2 => ?_)
      · exact ⟨y5.2.2.1, z5.2.2.2⟩
      clear hK K hHeld
      have hHeld := hHeld2
      clear hHeld2
      try simp only [Act.put, List.setIfInBounds_toArray, List.set_cons_zero, List.set_cons_succ]
      refine wpAnyH_calm (by kernel_rfl) ?_ _
      clear hHeld cv5
      go_wp2_with fail
      go_end0
      exact ⟨rfl, _, os, hX.both (by omega) hP5 (dl3 _ _) (by rw [dw3]; push_cast; omega)⟩
  · as_aux_lemma =>
      have cw4 := fun W' (hk : Kept [] W W') => refuse_dv (hP1.dv.new_kept hk) x.num hx.num.1 hx.num.2
      go_wp2_with fail
      refine wp_region_calm (S := (fun W => W.cell? ⟨p, 0, none⟩ = some (.pointer (some ⟨a, 0, none⟩)) ∧ W.cell? ⟨DB, 1, none⟩ = some (.int .i64 x.num))) (by kernel_rfl) (show _ ∧ _ from ⟨c0, b1⟩) (fun hHeld => ?_)
      refine wpAnyH_take (i := 0) (v := ?_) (by simp only [List.getElem?_toArray, List.getElem?_cons_zero]; rfl) (by kernel_rfl) (by kernel_rfl) (by kernel_rfl) (by exact fun _ _ _ h => h) (Or.inl ⟨by rfl, ?_⟩) hHeld ?_
      rotate_left
      · intro w hSw
        try dsimp only at hSw
        go_simp
        all_goals with_reducible rfl
      try simp only [Act.put, List.setIfInBounds_toArray, List.set_cons_zero, List.set_cons_succ]
      refine wpAnyH_take (i := 1) (v := ?_) (by simp only [List.getElem?_toArray, List.getElem?_cons_succ, List.getElem?_cons_zero]; rfl) (by kernel_rfl) (by kernel_rfl) (by kernel_rfl) (by exact fun _ _ _ h => h) (Or.inl ⟨by rfl, ?_⟩) hHeld ?_
      rotate_left
      · intro w hSw
        try dsimp only at hSw
        go_simp
        all_goals with_reducible rfl
      try simp only [Act.put, List.setIfInBounds_toArray, List.set_cons_zero, List.set_cons_succ]
      refine wpAnyH_take (i := 2) (v := ?_) (by simp only [List.getElem?_toArray, List.getElem?_cons_succ, List.getElem?_cons_zero]; rfl) (by kernel_rfl) (by kernel_rfl) (by kernel_rfl) (by exact fun _ _ _ h => h) (Or.inl ⟨by rfl, ?_⟩) hHeld ?_
      rotate_left
      · intro w hSw
        try dsimp only at hSw
        go_simp
        all_goals with_reducible rfl
      try simp only [Act.put, List.setIfInBounds_toArray, List.set_cons_zero, List.set_cons_succ]
      refine wpAnyH_take (i := 3) (v := ?_) (by simp only [List.getElem?_toArray, List.getElem?_cons_succ, List.getElem?_cons_zero]; rfl) (by kernel_rfl) (by kernel_rfl) (by kernel_rfl) (by exact fun _ _ _ h => h) (Or.inl ⟨by rfl, ?_⟩) hHeld ?_
      rotate_left
      · intro w hSw
        try dsimp only at hSw
        obtain ⟨s0, s1⟩ := hSw
        go_simp
        all_goals with_reducible rfl
      try simp only [Act.put, List.setIfInBounds_toArray, List.set_cons_zero, List.set_cons_succ]
      refine wpAnyH_take (i := 4) (v := ?_) (by simp only [List.getElem?_toArray, List.getElem?_cons_succ, List.getElem?_cons_zero]; rfl) (by kernel_rfl) (by kernel_rfl) (by kernel_rfl) (by exact fun _ _ _ h => h) (Or.inl ⟨by rfl, ?_⟩) hHeld ?_
      rotate_left
      · intro w hSw
        try dsimp only at hSw
        go_simp
        all_goals with_reducible rfl
      try simp only [Act.put, List.setIfInBounds_toArray, List.set_cons_zero, List.set_cons_succ]
      refine wpAnyH_take (i := 5) (v := ?_) (by simp only [List.getElem?_toArray, List.getElem?_cons_succ, List.getElem?_cons_zero]; rfl) (by kernel_rfl) (by kernel_rfl) (by kernel_rfl) (by exact fun _ _ _ h => h) (Or.inl ⟨by rfl, ?_⟩) hHeld ?_
      rotate_left
      · intro w hSw
        try dsimp only at hSw
        obtain ⟨s0, s1⟩ := hSw
        go_simp
        all_goals with_reducible rfl
      try simp only [Act.put, List.setIfInBounds_toArray, List.set_cons_zero, List.set_cons_succ]
      refine wpAnyH_ready (rs := [6]) (by kernel_rfl) (by simp) ?_
      refine AllReadyH.cons (by simp only [List.getElem?_toArray, List.getElem?_cons_succ, List.getElem?_cons_zero]; rfl) (fun K hK => ?_) AllReadyH.nil
      go_simp
      refine (cw4 _ (Kept.drew [] W)).mono ?_
      rintro e w4 ⟨rfl, fp4, hD4, hk4, hn4⟩
      obtain ⟨t4, hP4⟩ := (hP1.next (Kept.drew [] W)).dev hD4 hk4 hn4
      have hd4 := hdb.drew.dev hk4 hn4
      have y4 := pr11_cells hP4.head
      have z4 := hd4.cells
      go_wp2_with fail
      refine hK.out _ _ ?_ (fun hHeld2 => ?_)
      · exact ⟨y4.1, z4.2.1⟩
      clear hK K hHeld
      have hHeld := hHeld2
      clear hHeld2
      try simp only [Act.put, List.setIfInBounds_toArray, List.set_cons_zero, List.set_cons_succ]
      refine wpAnyH_calm (by kernel_rfl) ?_ _
      clear hHeld cw4
      have cv5 := fun W' (hk : Kept [] w4 W') => rv_refuse (hP4.rv.new_kept hk) x.num
      go_wp2_with fail
      refine wp_region_calm (S := (fun W => W.cell? ⟨p, 2, none⟩ = some (.pointer (some ⟨r, 0, none⟩)) ∧ W.cell? ⟨DB, 1, none⟩ = some (.int .i64 x.num))) (by kernel_rfl) (show _ ∧ _ from ⟨y4.2.2.1, z4.2.1⟩) (fun hHeld => ?_)
      refine wpAnyH_take (i := 0) (v := ?_) (by simp only [List.getElem?_toArray, List.getElem?_cons_zero]; rfl) (by kernel_rfl) (by kernel_rfl) (by kernel_rfl) (by exact fun _ _ _ h => h) (Or.inl ⟨by rfl, ?_⟩) hHeld ?_
      rotate_left
      · intro w hSw
        try dsimp only at hSw
        go_simp
        all_goals with_reducible rfl
      try simp only [Act.put, List.setIfInBounds_toArray, List.set_cons_zero, List.set_cons_succ]
      refine wpAnyH_take (i := 1) (v := ?_) (by simp only [List.getElem?_toArray, List.getElem?_cons_succ, List.getElem?_cons_zero]; rfl) (by kernel_rfl) (by kernel_rfl) (by kernel_rfl) (by exact fun _ _ _ h => h) (Or.inl ⟨by rfl, ?_⟩) hHeld ?_
      rotate_left
      · intro w hSw
        try dsimp only at hSw
        go_simp
        all_goals with_reducible rfl
      try simp only [Act.put, List.setIfInBounds_toArray, List.set_cons_zero, List.set_cons_succ]
      refine wpAnyH_take (i := 2) (v := ?_) (by simp only [List.getElem?_toArray, List.getElem?_cons_succ, List.getElem?_cons_zero]; rfl) (by kernel_rfl) (by kernel_rfl) (by kernel_rfl) (by exact fun _ _ _ h => h) (Or.inl ⟨by rfl, ?_⟩) hHeld ?_
      rotate_left
      · intro w hSw
        try dsimp only at hSw
        go_simp
        all_goals with_reducible rfl
      try simp only [Act.put, List.setIfInBounds_toArray, List.set_cons_zero, List.set_cons_succ]
      refine wpAnyH_take (i := 3) (v := ?_) (by simp only [List.getElem?_toArray, List.getElem?_cons_succ, List.getElem?_cons_zero]; rfl) (by kernel_rfl) (by kernel_rfl) (by kernel_rfl) (by exact fun _ _ _ h => h) (Or.inl ⟨by rfl, ?_⟩) hHeld ?_
      rotate_left
      · intro w hSw
        try dsimp only at hSw
        obtain ⟨s0, s1⟩ := hSw
        go_simp
        all_goals with_reducible rfl
      try simp only [Act.put, List.setIfInBounds_toArray, List.set_cons_zero, List.set_cons_succ]
      refine wpAnyH_take (i := 4) (v := ?_) (by simp only [List.getElem?_toArray, List.getElem?_cons_succ, List.getElem?_cons_zero]; rfl) (by kernel_rfl) (by kernel_rfl) (by kernel_rfl) (by exact fun _ _ _ h => h) (Or.inl ⟨by rfl, ?_⟩) hHeld ?_
      rotate_left
      · intro w hSw
        try dsimp only at hSw
        go_simp
        all_goals with_reducible rfl
      try simp only [Act.put, List.setIfInBounds_toArray, List.set_cons_zero, List.set_cons_succ]
      refine wpAnyH_take (i := 5) (v := ?_) (by simp only [List.getElem?_toArray, List.getElem?_cons_succ, List.getElem?_cons_zero]; rfl) (by kernel_rfl) (by kernel_rfl) (by kernel_rfl) (by exact fun _ _ _ h => h) (Or.inl ⟨by rfl, ?_⟩) hHeld ?_
      rotate_left
      · intro w hSw
        try dsimp only at hSw
        obtain ⟨s0, s1⟩ := hSw
        go_simp
        all_goals with_reducible rfl
      try simp only [Act.put, List.setIfInBounds_toArray, List.set_cons_zero, List.set_cons_succ]
      refine wpAnyH_ready (rs := [6]) (by kernel_rfl) (by simp) ?_
      refine AllReadyH.cons (by simp only [List.getElem?_toArray, List.getElem?_cons_succ, List.getElem?_cons_zero]; rfl) (fun K hK => ?_) AllReadyH.nil
      go_simp
      refine (cv5 _ (Kept.drew [] w4)).mono ?_
      rintro e w5 ⟨rfl, gp5, hR5, hk5, hn5⟩
      obtain ⟨t5, hP5⟩ := (hP4.next (Kept.drew [] w4)).ref hR5 hk5 hn5
      have hd5 := hd4.drew.ref hk5 hn5
      have y5 := pr11_cells hP5.head
      have z5 := hd5.cells
      go_wp2_with fail
      refine hK.out _ _ ?_ (fun hHeld2 => ?_)
      · exact ⟨y5.2.2.1, z5.2.1⟩
      clear hK K hHeld
      have hHeld := hHeld2
      clear hHeld2
      try simp only [Act.put, List.setIfInBounds_toArray, List.set_cons_zero, List.set_cons_succ]
      refine wpAnyH_calm (by kernel_rfl) ?_ _
      clear hHeld cv5
      go_wp2_with fail
      go_end0
      exact ⟨rfl, _, os, hX.both (by omega) hP5 (dl4 _) (by rw [dw4]; push_cast; omega)⟩
  · as_aux_lemma =>
      have hdat := hx.data.1.kept hP1.kept (by simp)
      obtain ⟨j0, hj0, ju0, ju1, ju2⟩ := info_parts info_u8
      have hmk := fun wx : World => run_make (P := Try.prog) wx 34 5 j0 _ Try.underlying34 hj0 ju0 .i64 .i64 128 128 (by omega) (by omega) (by rw [ju2]; omega) (by omega)
      simp only [ju1, show Int.toNat 128 = 128 from rfl, Nat.mul_one, show (Value.int .u8 0).cells = #[.int .u8 0] from rfl] at hmk
      have hkb : Kept [] W (W.alloc (.cells (madeCells #[.int .u8 0] 128) 5)) := Kept.alloc [] _ _
      obtain ⟨W2, hcp, hs2, hkc⟩ := copied_any (W.alloc (.cells (madeCells #[.int .u8 0] 128) 5)) (heap_alloc_new _ _) (hdat.kept hkb (by simp))
      have m2 : (W.alloc (.cells (madeCells #[.int .u8 0] 128) 5)).cell? ⟨DB, 2, none⟩ = some (.slice x.data.A x.data.n x.data.c) := (hkb.cell (p := ⟨DB, 2, none⟩) hDl (by simp)).trans b2
      have hk2 : Kept [] W W2 := hkb.trans' hkc (by simp)
      have hP2 := hP1.next hk2
      have hd2 : DcAt w0 W2 DB x fp gp S G p := ⟨(hk2.block DB hDl (by simp)).trans hdb.blk, hdb.ok, hdb.nf, hdb.ng, hdb.nS, hdb.nG, hdb.np⟩
      obtain ⟨y0, y1, y2, y3, y4, yf⟩ := pr11_cells hP2.head
      obtain ⟨z0, z1, z2, z3⟩ := hd2.cells
      obtain ⟨B0, hB0⟩ : ∃ B0, pad (x.data.xs.take 128) = B0 := ⟨_, rfl⟩
      rw [hB0] at hs2
      have hl := writes_len [B0] d x.num
      have hl1 : (d.write x.num B0).1.secs.length = d.secs.length := by
        rw [Dev.writes] at hl
        split at hl
        · exact hl
        · exact hl
      have hw1 := write_works d x.num B0
      have hgf : W.heap.size ∉ fp ∧ W.heap.size ∉ gp := ⟨fun hm => by have := hP1.dv.lt _ hm; omega, fun hm => by have := hP1.rv.lt _ hm; omega⟩
      clear hl hB0 c0 c1 c2 c3 c4 cf b0 b1 b2 b3 hkc
      go_wp2_with fail
      generalize hgg : W.heap.size = g at *
      clear hgg
      have cw4 := fun W' (hk : Kept [] W2 W') => write_dv (hP2.dv.new_kept hk) x.num B0 (some ⟨g, 0, none⟩) 128 128 (hs2.kept hk (by simp)) (fun p1 e1 => by cases e1; exact hgf.1) (by omega)
      go_wp2_with fail
      refine wp_region_calm (S := (fun W => W.cell? ⟨p, 0, none⟩ = some (.pointer (some ⟨a, 0, none⟩)) ∧ W.cell? ⟨DB, 1, none⟩ = some (.int .i64 x.num))) (by kernel_rfl) (show _ ∧ _ from ⟨y0, z1⟩) (fun hHeld => ?_)
      refine wpAnyH_take (i := 0) (v := ?_) (by simp only [List.getElem?_toArray, List.getElem?_cons_zero]; rfl) (by kernel_rfl) (by kernel_rfl) (by kernel_rfl) (by exact fun _ _ _ h => h) (Or.inl ⟨by rfl, ?_⟩) hHeld ?_
      rotate_left
      · intro w hSw
        try dsimp only at hSw
        go_simp
        all_goals with_reducible rfl
      try simp only [Act.put, List.setIfInBounds_toArray, List.set_cons_zero, List.set_cons_succ]
      refine wpAnyH_take (i := 1) (v := ?_) (by simp only [List.getElem?_toArray, List.getElem?_cons_succ, List.getElem?_cons_zero]; rfl) (by kernel_rfl) (by kernel_rfl) (by kernel_rfl) (by exact fun _ _ _ h => h) (Or.inl ⟨by rfl, ?_⟩) hHeld ?_
      rotate_left
      · intro w hSw
        try dsimp only at hSw
        go_simp
        all_goals with_reducible rfl
      try simp only [Act.put, List.setIfInBounds_toArray, List.set_cons_zero, List.set_cons_succ]
      refine wpAnyH_take (i := 2) (v := ?_) (by simp only [List.getElem?_toArray, List.getElem?_cons_succ, List.getElem?_cons_zero]; rfl) (by kernel_rfl) (by kernel_rfl) (by kernel_rfl) (by exact fun _ _ _ h => h) (Or.inl ⟨by rfl, ?_⟩) hHeld ?_
      rotate_left
      · intro w hSw
        try dsimp only at hSw
        go_simp
        all_goals with_reducible rfl
      try simp only [Act.put, List.setIfInBounds_toArray, List.set_cons_zero, List.set_cons_succ]
      refine wpAnyH_take (i := 3) (v := ?_) (by simp only [List.getElem?_toArray, List.getElem?_cons_succ, List.getElem?_cons_zero]; rfl) (by kernel_rfl) (by kernel_rfl) (by kernel_rfl) (by exact fun _ _ _ h => h) (Or.inl ⟨by rfl, ?_⟩) hHeld ?_
      rotate_left
      · intro w hSw
        try dsimp only at hSw
        obtain ⟨s0, s1⟩ := hSw
        go_simp
        all_goals with_reducible rfl
      try simp only [Act.put, List.setIfInBounds_toArray, List.set_cons_zero, List.set_cons_succ]
      refine wpAnyH_take (i := 4) (v := ?_) (by simp only [List.getElem?_toArray, List.getElem?_cons_succ, List.getElem?_cons_zero]; rfl) (by kernel_rfl) (by kernel_rfl) (by kernel_rfl) (by exact fun _ _ _ h => h) (Or.inl ⟨by rfl, ?_⟩) hHeld ?_
      rotate_left
      · intro w hSw
        try dsimp only at hSw
        go_simp
        all_goals with_reducible rfl
      try simp only [Act.put, List.setIfInBounds_toArray, List.set_cons_zero, List.set_cons_succ]
      refine wpAnyH_take (i := 5) (v := ?_) (by simp only [List.getElem?_toArray, List.getElem?_cons_succ, List.getElem?_cons_zero]; rfl) (by kernel_rfl) (by kernel_rfl) (by kernel_rfl) (by exact fun _ _ _ h => h) (Or.inl ⟨by rfl, ?_⟩) hHeld ?_
      rotate_left
      · intro w hSw
        try dsimp only at hSw
        obtain ⟨s0, s1⟩ := hSw
        go_simp
        all_goals with_reducible rfl
      try simp only [Act.put, List.setIfInBounds_toArray, List.set_cons_zero, List.set_cons_succ]
      refine wpAnyH_take (i := 6) (v := ?_) (by simp only [List.getElem?_toArray, List.getElem?_cons_succ, List.getElem?_cons_zero]; rfl) (by kernel_rfl) (by kernel_rfl) (by kernel_rfl) (by exact fun _ _ _ h => h) (Or.inl ⟨by rfl, ?_⟩) hHeld ?_
      rotate_left
      · intro w hSw
        try dsimp only at hSw
        go_simp
        all_goals with_reducible rfl
      try simp only [Act.put, List.setIfInBounds_toArray, List.set_cons_zero, List.set_cons_succ]
      refine wpAnyH_ready (rs := [7]) (by kernel_rfl) (by simp) ?_
      refine AllReadyH.cons (by simp only [List.getElem?_toArray, List.getElem?_cons_succ, List.getElem?_cons_zero]; rfl) (fun K hK => ?_) AllReadyH.nil
      go_simp
      refine (cw4 _ (Kept.drew [] W2)).mono ?_
      rintro e w4 ⟨rfl, fp4, hD4, hk4, hn4⟩
      obtain ⟨t4, hP4⟩ := (hP2.next (Kept.drew [] W2)).dev hD4 hk4 hn4
      have hd4 := hd2.drew.dev hk4 hn4
      have y4 := pr11_cells hP4.head
      have z4 := hd4.cells
      go_wp2_with fail
      refine hK.out _ _ ?_ (fun hHeld2 => ?_)
      · exact ⟨y4.1, z4.2.1⟩
      clear hK K hHeld
      have hHeld := hHeld2
      clear hHeld2
      try simp only [Act.put, List.setIfInBounds_toArray, List.set_cons_zero, List.set_cons_succ]
      refine wpAnyH_calm (by kernel_rfl) ?_ _
      clear hHeld cw4
      have hs4 := (hs2.kept (Kept.drew [] W2) (by simp)).keptP hk4 (fun p1 e1 _ => by cases e1; exact hgf.1)
      have cv5 := fun W' (hk : Kept [] w4 W') => rv_write (hP4.rv.new_kept hk) hdw (by omega) x.num B0 (some ⟨g, 0, none⟩) 128 128 (hs4.kept hk (by simp))
      go_wp2_with fail
      refine wp_region_calm (S := (fun W => W.cell? ⟨p, 2, none⟩ = some (.pointer (some ⟨r, 0, none⟩)) ∧ W.cell? ⟨DB, 1, none⟩ = some (.int .i64 x.num))) (by kernel_rfl) (show _ ∧ _ from ⟨y4.2.2.1, z4.2.1⟩) (fun hHeld => ?_)
      refine wpAnyH_take (i := 0) (v := ?_) (by simp only [List.getElem?_toArray, List.getElem?_cons_zero]; rfl) (by kernel_rfl) (by kernel_rfl) (by kernel_rfl) (by exact fun _ _ _ h => h) (Or.inl ⟨by rfl, ?_⟩) hHeld ?_
      rotate_left
      · intro w hSw
        try dsimp only at hSw
        go_simp
        all_goals with_reducible rfl
      try simp only [Act.put, List.setIfInBounds_toArray, List.set_cons_zero, List.set_cons_succ]
      refine wpAnyH_take (i := 1) (v := ?_) (by simp only [List.getElem?_toArray, List.getElem?_cons_succ, List.getElem?_cons_zero]; rfl) (by kernel_rfl) (by kernel_rfl) (by kernel_rfl) (by exact fun _ _ _ h => h) (Or.inl ⟨by rfl, ?_⟩) hHeld ?_
      rotate_left
      · intro w hSw
        try dsimp only at hSw
        go_simp
        all_goals with_reducible rfl
      try simp only [Act.put, List.setIfInBounds_toArray, List.set_cons_zero, List.set_cons_succ]
      refine wpAnyH_take (i := 2) (v := ?_) (by simp only [List.getElem?_toArray, List.getElem?_cons_succ, List.getElem?_cons_zero]; rfl) (by kernel_rfl) (by kernel_rfl) (by kernel_rfl) (by exact fun _ _ _ h => h) (Or.inl ⟨by rfl, ?_⟩) hHeld ?_
      rotate_left
      · intro w hSw
        try dsimp only at hSw
        go_simp
        all_goals with_reducible rfl
      try simp only [Act.put, List.setIfInBounds_toArray, List.set_cons_zero, List.set_cons_succ]
      refine wpAnyH_take (i := 3) (v := ?_) (by simp only [List.getElem?_toArray, List.getElem?_cons_succ, List.getElem?_cons_zero]; rfl) (by kernel_rfl) (by kernel_rfl) (by kernel_rfl) (by exact fun _ _ _ h => h) (Or.inl ⟨by rfl, ?_⟩) hHeld ?_
      rotate_left
      · intro w hSw
        try dsimp only at hSw
        obtain ⟨s0, s1⟩ := hSw
        go_simp
        all_goals with_reducible rfl
      try simp only [Act.put, List.setIfInBounds_toArray, List.set_cons_zero, List.set_cons_succ]
      refine wpAnyH_take (i := 4) (v := ?_) (by simp only [List.getElem?_toArray, List.getElem?_cons_succ, List.getElem?_cons_zero]; rfl) (by kernel_rfl) (by kernel_rfl) (by kernel_rfl) (by exact fun _ _ _ h => h) (Or.inl ⟨by rfl, ?_⟩) hHeld ?_
      rotate_left
      · intro w hSw
        try dsimp only at hSw
        go_simp
        all_goals with_reducible rfl
      try simp only [Act.put, List.setIfInBounds_toArray, List.set_cons_zero, List.set_cons_succ]
      refine wpAnyH_take (i := 5) (v := ?_) (by simp only [List.getElem?_toArray, List.getElem?_cons_succ, List.getElem?_cons_zero]; rfl) (by kernel_rfl) (by kernel_rfl) (by kernel_rfl) (by exact fun _ _ _ h => h) (Or.inl ⟨by rfl, ?_⟩) hHeld ?_
      rotate_left
      · intro w hSw
        try dsimp only at hSw
        obtain ⟨s0, s1⟩ := hSw
        go_simp
        all_goals with_reducible rfl
      try simp only [Act.put, List.setIfInBounds_toArray, List.set_cons_zero, List.set_cons_succ]
      refine wpAnyH_take (i := 6) (v := ?_) (by simp only [List.getElem?_toArray, List.getElem?_cons_succ, List.getElem?_cons_zero]; rfl) (by kernel_rfl) (by kernel_rfl) (by kernel_rfl) (by exact fun _ _ _ h => h) (Or.inl ⟨by rfl, ?_⟩) hHeld ?_
      rotate_left
      · intro w hSw
        try dsimp only at hSw
        go_simp
        all_goals with_reducible rfl
      try simp only [Act.put, List.setIfInBounds_toArray, List.set_cons_zero, List.set_cons_succ]
      refine wpAnyH_ready (rs := [7]) (by kernel_rfl) (by simp) ?_
      refine AllReadyH.cons (by simp only [List.getElem?_toArray, List.getElem?_cons_succ, List.getElem?_cons_zero]; rfl) (fun K hK => ?_) AllReadyH.nil
      go_simp
      refine (cv5 _ (Kept.drew [] w4)).mono ?_
      rintro e w5 ⟨rfl, gp5, hR5, hk5, hn5⟩
      obtain ⟨t5, hP5⟩ := (hP4.next (Kept.drew [] w4)).ref hR5 hk5 hn5
      have hd5 := hd4.drew.ref hk5 hn5
      have y5 := pr11_cells hP5.head
      have z5 := hd5.cells
      go_wp2_with fail
      refine hK.out _ _ ?_ (fun hHeld2 => ?_)
      · exact ⟨y5.2.2.1, z5.2.1⟩
      clear hK K hHeld
      have hHeld := hHeld2
      clear hHeld2
      try simp only [Act.put, List.setIfInBounds_toArray, List.set_cons_zero, List.set_cons_succ]
      refine wpAnyH_calm (by kernel_rfl) ?_ _
      clear hHeld cv5
      go_wp2_with fail
      go_end0
      exact ⟨rfl, _, os, hX.both (by omega) hP5 hl1 (by push_cast; omega)⟩
end Go.Proofs.Ytbnflbkaogpnbaa
