/- The pair of chapter 12: step. -/
import Derived.Test.YtbnflbkaogpnbaaN8
namespace Go.Proofs.Ytbnflbkaogpnbaa
set_option linter.unusedVariables false
open Go.RowKit

def D11.cells (x : D11) : Array Value := #[.int .i64 x.kind, .int .i64 x.num, .slice x.data.A x.data.n x.data.c, .slice x.keepA x.keepn x.keepc]
def D11.val (x : D11) : Value := .agg x.cells

theorem dev_len (d : Dev) : d.flush.1.secs.length = d.secs.length ∧ (∀ k, (d.crash k).1.secs.length = d.secs.length) ∧ (∀ n k, (d.failAt n k).1.secs.length = d.secs.length) ∧ (∀ n, (d.refuse n).1.secs.length = d.secs.length) ∧ d.boot.secs.length = d.secs.length := by
  refine ⟨?_, fun k => ?_, fun n k => ?_, fun n => ?_, rfl⟩
  · unfold Dev.flush
    split
    · rfl
    · split
      · rfl
      · split
        · simp [Dev.gone, Dev.length_backs]
        · rfl
  · unfold Dev.crash
    split
    · rfl
    · simp [Dev.gone, Dev.length_backs]
  · unfold Dev.failAt
    split
    · rfl
    · rfl
  · unfold Dev.refuse
    split
    · rfl
    · rfl

theorem dev_works (d : Dev) : d.flush.1.works ≤ d.works + 1 ∧ (∀ k, (d.crash k).1.works = d.works) ∧ (∀ n k, (d.failAt n k).1.works = d.works) ∧ (∀ n, (d.refuse n).1.works = d.works) ∧ d.boot.works = d.works := by
  refine ⟨?_, fun k => ?_, fun n k => ?_, fun n => ?_, rfl⟩
  · unfold Dev.flush
    split
    · show d.works ≤ _
      omega
    · split
      · show d.works ≤ _
        omega
      · split
        · show d.works ≤ _
          omega
        · show d.works + 1 ≤ _
          omega
  · unfold Dev.crash
    split
    · rfl
    · rfl
  · unfold Dev.failAt
    split
    · rfl
    · rfl
  · unfold Dev.refuse
    split
    · rfl
    · rfl

theorem writes_works_le : ∀ (cs : List Blk) (d : Dev) (q : Int), (d.writes q cs).1.works ≤ d.works + cs.length := by
  intro cs
  induction cs with
  | nil => intro d q; show d.works ≤ _; omega
  | cons c cs ih =>
    intro d q
    have h1 := write_works d q c
    rw [Dev.writes, List.length_cons]
    split
    · have h2 := ih (d.write q c).1 (q + 1)
      push_cast
      omega
    · push_cast
      omega

theorem append_plain {s : St} {d : Dev} {b : List UInt8} (hw : s.Wf d) : (s.append d b).1.Wf (s.append d b).2.1 ∧ (s.append d b).2.1.secs.length = d.secs.length ∧ (s.append d b).2.1.works ≤ d.works + (b.length + 3) ∧ (s.append d b).1.first = s.first ∧ (s.append d b).1.many = s.many := by
  unfold St.append
  split
  · exact ⟨hw, rfl, by show d.works ≤ _; omega, rfl, rfl⟩
  · split
    · exact ⟨hw, rfl, by show d.works ≤ _; omega, rfl, rfl⟩
    · rename_i h1 h2
      have hl := hw.last
      have hal : (s.last ++ recB b).length = s.fin % 128 + (b.length + 7) := by rw [List.length_append, hl, length_recB]
      have hx1 := writes_len ((chunks (s.last ++ recB b)).map pad) d (s.first + s.fin / 128 : Nat)
      have hx2 := writes_works_le ((chunks (s.last ++ recB b)).map pad) d (s.first + s.fin / 128 : Nat)
      rw [List.length_map, length_chunks, hal] at hx2
      simp only
      have hsame : ∀ d' : Dev, d'.secs.length = d.secs.length → s.Wf d' := fun d' e => ⟨hw.one, by rw [e]; exact hw.there, hw.fin, hw.last⟩
      split
      · refine ⟨⟨hw.one, ?_, ?_, ?_⟩, hx1, ?_, rfl, rfl⟩
        · show s.first + s.many ≤ _
          rw [hx1]
          exact hw.there
        · show s.fin + (b.length + 7) ≤ 128 * s.many
          omega
        · show (List.drop _ _).length = (s.fin + (b.length + 7)) % 128
          rw [List.length_drop, hal]
          omega
        · show (d.writes _ _).1.works ≤ _
          omega
      · refine ⟨hsame _ hx1, hx1, ?_, rfl, rfl⟩
        show (d.writes _ _).1.works ≤ _
        omega

/-- The pair's own cells are written, its strips as they were. -/
theorem Pr12.own {w0 w w' : World} {p a r : Nat} {f m sure sure' : Int} {d e : Dev} {os om : Option St} {vs vm : Value} {fp gp S G : List Nat} {t : Nat → Nat} (h : Pr12 w0 w p a r f m sure d e os om vs vm fp gp S G t) (hk : Kept [p] w w') (hh : w'.heap[p]? = some (.cells (prCells f m a r vs vm sure' true) 123 (0, 0))) : ∃ t', Pr12 w0 w' p a r f m sure' d e os om vs vm fp gp S G t' :=
  h.put (Kept.refl _ _) hk hh h.st h.rt (fun j hj => .inl hj) (fun j hj => .inl hj) (fun j hj hm => by have h1 := h.tS j hj; have h2 := h.tG j hm; omega) h.ltS h.ltG

/-- Behind a deed of both devices. -/
theorem PrX.both {w0 w w' : World} {p a r : Nat} {f m sure : Int} {d d' : Dev} {os : Option St} {k k' : Nat} (h : PrX w0 w p a r f m sure d os k) {vs vm : Value} {fp gp S G : List Nat} {t : Nat → Nat} (hP : Pr12 w0 w' p a r f m sure d' d' os os vs vm fp gp S G t) (hl : d'.secs.length = d.secs.length) (hw : d'.works ≤ 1000 * k') : PrX w0 w' p a r f m sure d' os k' := by
  refine ⟨⟨vs, vm, fp, gp, S, G, t, hP⟩, fun s hs => ?_, hw, by rw [hl]; exact h.len, h.fI, h.mI, h.sI⟩
  obtain ⟨g1, g2⟩ := h.wf s hs
  exact ⟨⟨g1.one, by rw [hl]; exact g1.there, g1.fin, g1.last⟩, g2⟩

/-- A deed in a block of its own, beside the pair. -/
structure DbAt (w0 w : World) (DB : Nat) (x : D11) (fp gp S G : List Nat) (p : Nat) : Prop where
  blk : w.heap[DB]? = some (.cells x.cells 80 (0, 0))
  ok : x.Ok w0
  nf : DB ∉ fp
  ng : DB ∉ gp
  nS : DB ∉ S
  nG : DB ∉ G
  np : DB ≠ p

theorem DbAt.cells {w0 w : World} {DB : Nat} {x : D11} {fp gp S G : List Nat} {p : Nat} (h : DbAt w0 w DB x fp gp S G p) : w.cell? ⟨DB, 0, none⟩ = some (.int .i64 x.kind) ∧ w.cell? ⟨DB, 1, none⟩ = some (.int .i64 x.num) ∧ w.cell? ⟨DB, 2, none⟩ = some (.slice x.data.A x.data.n x.data.c) ∧ w.cell? ⟨DB, 3, none⟩ = some (.slice x.keepA x.keepn x.keepc) := by
  refine ⟨?_, ?_, ?_, ?_⟩ <;> (rw [blk_cell h.blk]; rfl)

theorem DbAt.drew {w0 w : World} {DB : Nat} {x : D11} {fp gp S G : List Nat} {p : Nat} (h : DbAt w0 w DB x fp gp S G p) : DbAt w0 w.drew DB x fp gp S G p := ⟨h.blk, h.ok, h.nf, h.ng, h.nS, h.nG, h.np⟩

theorem DbAt.dev {w0 w w' : World} {DB : Nat} {x : D11} {fp gp S G fp' : List Nat} {p : Nat} (h : DbAt w0 w DB x fp gp S G p) (hk : Kept fp w w') (hn : ∀ j ∈ fp', j ∈ fp ∨ w.heap.size ≤ j) : DbAt w0 w' DB x fp' gp S G p :=
  ⟨(hk.block DB (World.lt_of_heap h.blk) h.nf).trans h.blk, h.ok, fun hm => by
    rcases hn _ hm with e | e
    · exact h.nf e
    · have := World.lt_of_heap h.blk; omega, h.ng, h.nS, h.nG, h.np⟩
theorem DbAt.ref {w0 w w' : World} {DB : Nat} {x : D11} {fp gp S G gp' : List Nat} {p : Nat} (h : DbAt w0 w DB x fp gp S G p) (hk : Kept gp w w') (hn : ∀ j ∈ gp', j ∈ gp ∨ w.heap.size ≤ j) : DbAt w0 w' DB x fp gp' S G p :=
  ⟨(hk.block DB (World.lt_of_heap h.blk) h.ng).trans h.blk, h.ok, h.nf, fun hm => by
    rcases hn _ hm with e | e
    · exact h.ng e
    · have := World.lt_of_heap h.blk; omega, h.nS, h.nG, h.np⟩

theorem keep_out {w0 w : World} {x : D11} (hx : x.Ok w0) (hk : Kept [] w0 w) {F : List Nat} (hF : ∀ j ∈ F, w0.heap.size ≤ j) : SlAt w x.keepA x.keepn x.keepc (x.keep.map i64v) ∧ ∀ p, x.keepA = some p → 0 < x.keepn → p.block ∉ F :=
  ⟨hx.keepS.kept hk (by simp), fun p e hn hm => by
    have h1 := hx.keepS.lt' hn e
    have h2 := hF _ hm
    omega⟩

set_option maxHeartbeats 8000000 in
set_option maxRecDepth 100000 in
theorem pairStep12_any {w0 w : World} {p a r : Nat} {f m sure : Int} {d : Dev} {os : Option St} {k : Nat} (h : PrX w0 w p a r f m sure d os k) (hk : k ≤ 1000) (x : D11) (hx : x.Ok w0) (hxn : x.data.n ≤ 900) :
    Calls Try.prog 89 #[.pointer (some ⟨p, 0, none⟩), x.val] w (PrPost w0 p a r f m (k + 1)) := by
  obtain ⟨vs, vm, fp, gp, S, G, t, hP⟩ := h.ex
  obtain ⟨W, hW⟩ : ∃ W, w.alloc (.cells x.cells 80) = W := ⟨_, rfl⟩
  have kD : Kept [] w W := by rw [← hW]; exact Kept.alloc [] _ _
  have hdb : DbAt w0 W w.heap.size x fp gp S G p := ⟨by rw [← hW]; exact heap_alloc_new _ _, hx, fun hm => Nat.lt_irrefl _ (hP.dv.lt _ hm), fun hm => Nat.lt_irrefl _ (hP.rv.lt _ hm), fun hm => Nat.lt_irrefl _ (hP.ltS _ hm), fun hm => Nat.lt_irrefl _ (hP.ltG _ hm), fun e => by have := hP.pl; omega⟩
  have hX := h.next kD
  have hP1 := hP.next kD
  have hdw := hP.dv.wf
  have hwks := h.works
  have lf : ∀ j ∈ fp, w0.heap.size ≤ j := fun j hj => hP.low j (.inr (.inl hj))
  have lg : ∀ j ∈ gp, w0.heap.size ≤ j := fun j hj => hP.low j (.inr (.inr (.inl hj)))
  have hz := hP.kept.size
  obtain ⟨q, hq⟩ : ∃ q : Nat, x.kind % 8 = q := ⟨(x.kind % 8).toNat, by omega⟩
  have hq8 : q < 8 := by omega
  have cb := fun W => bring_any x.kind 8 W (by omega) (by omega) hx.kind.1 hx.kind.2
  rw [hq] at cb
  obtain ⟨dl1, dl2, dl3, dl4, dl5⟩ := dev_len d
  obtain ⟨dw1, dw2, dw3, dw4, dw5⟩ := dev_works d
  clear hP hq
  unfold D11.val D11.cells
  unfold D11.cells at hW
  go_enter Try.func89, Try.ntmps89
  go_upto_region 1 with fail
  try rw [hW]
  clear hW
  have hDl := World.lt_of_heap hdb.blk
  generalize w.heap.size = DB at *
  obtain ⟨b0, b1, b2, b3⟩ := hdb.cells
  obtain ⟨c0, c1, c2, c3, c4, c5, c6, c7, cf⟩ := pr_cells hP1.head
  go_wp2_with fail
  refine (cb _).mono ?_
  rintro e w3 ⟨rfl, rfl⟩
  clear cb
  have hqc : q = 0 ∨ q = 1 ∨ q = 2 ∨ q = 3 ∨ q = 4 ∨ q = 5 ∨ q = 6 ∨ q = 7 := by omega
  rcases hqc with rfl | rfl | rfl | rfl | rfl | rfl | rfl | rfl
  · as_aux_lemma =>
      have hdat := hx.data.1.kept hP1.kept (by simp)
      have hdl := hx.data.1.len
      have cc := copyBytes_any W x.data.A x.data.n x.data.c x.data.xs hdat (by omega)
      cases os with
      | none =>
        have hm0 : vm = .pointer none := hP1.rt
        subst hm0
        go_wp2_with fail
        refine cc.mono ?_
        rintro e w2 ⟨A2, n2, rfl, hown2, hbel2⟩
        have hk2 := Kept.of_below (F := []) hbel2
        obtain ⟨y0, y1, y2, y3, y4, y5, y6, y7, yf⟩ := pr_cells (hP1.next hk2).head
        clear c0 c1 c2 c3 c4 c5 c6 c7 cf cc hown2 hbel2
        have h4 := hX.next hk2
        go_wp2_with fail
        go_end0
        exact ⟨rfl, sure, d, none, h4.ex, h4.wf, by push_cast; omega, h4.len, h4.fI, h4.mI, h4.sI⟩
      | some s =>
        obtain ⟨zs, hvs, hS⟩ := hP1.st
        obtain ⟨zm, B, hvm, hG⟩ := hP1.rt
        subst hvs hvm
        obtain ⟨g1, g2, g3, g4, g5⟩ := h.wf s rfl
        go_wp2_with fail
        refine cc.mono ?_
        rintro e w2 ⟨A2, n2, rfl, hown2, hbel2⟩
        have hk2 := Kept.of_below (F := []) hbel2
        obtain ⟨hs2, hn2⟩ := ClonePost.sl hown2
        have hA2 := row_nil hown2
        have hl2 : ∀ p, A2 = some p → p.block < w2.heap.size := fun p e => (hown2.lt p.block (by rw [e]; rfl)).2
        have hP2 := hP1.next hk2
        have hS2 := hS.kept hk2 (by simp)
        have hG2 := hG.kept hk2 (by simp)
        have hd2 : DbAt w0 w2 DB x fp gp S G p := ⟨(hk2.block DB hDl (by simp)).trans hdb.blk, hdb.ok, hdb.nf, hdb.ng, hdb.nS, hdb.nG, hdb.np⟩
        obtain ⟨y0, y1, y2, y3, y4, y5, y6, y7, yf⟩ := pr_cells hP2.head
        obtain ⟨z0, z1, z2, z3⟩ := hd2.cells
        have hdat2 := hdat.kept hk2 (by simp)
        have hne : ∀ j ∈ S, j ∉ fp := fun j hj hm => by have h1 := hP2.tS j hj; have h2 := hP2.tf j hm; omega
        have hne2 : ∀ j ∈ G, j ∉ gp := fun j hj hm => by have h1 := hP2.tG j hj; have h2 := hP2.tg j hm; omega
        obtain ⟨q1, q2, q3, q4, q5⟩ := append_plain (b := x.data.xs) g1
        have hxl : x.data.xs.length = x.data.n := by simpa [u8vs] using hdl
        have ca := fun W' (hk : Kept [] w2 W') => append_any (hP2.dv.new_kept hk) (hS2.kept hk (by simp)) hne g1 A2 x.data.n n2 x.data.xs (hs2.kept hk (by simp)) hA2 (by omega)
        obtain ⟨X, hX'⟩ : ∃ X, s.append d x.data.xs = X := ⟨_, rfl⟩
        rw [hX'] at ca q1 q2 q3 q4 q5
        have HXX := Lib.hid hX'
        have hxw : X.2.1.works ≤ 1000 * ((k + 1 : Nat) : Int) := by push_cast; omega
        have hAout : ∀ p', A2 = some p' → p'.block ∉ fp ++ S ∧ p'.block ∉ gp ++ G := fun p' e => by
          have h1 := hn2 p' e
          refine ⟨fun hm => ?_, fun hm => ?_⟩
          · rcases List.mem_append.mp hm with hm | hm
            · have := hP1.dv.lt _ hm; omega
            · have := hP1.ltS _ hm; omega
          · rcases List.mem_append.mp hm with hm | hm
            · have := hP1.rv.lt _ hm; omega
            · have := hP1.ltG _ hm; omega
        have hDout : ∀ p', x.data.A = some p' → 0 < x.data.n → p'.block ∉ fp ++ S ∧ p'.block ∉ gp ++ G := fun p' e hn => by
          have h1 := hx.data.1.lt' hn e
          refine ⟨fun hm => ?_, fun hm => ?_⟩
          · rcases List.mem_append.mp hm with hm | hm
            · have := hP1.low _ (.inr (.inl hm)); omega
            · have := hP1.low _ (.inr (.inr (.inr (.inl hm)))); omega
          · rcases List.mem_append.mp hm with hm | hm
            · have := hP1.low _ (.inr (.inr (.inl hm))); omega
            · have := hP1.low _ (.inr (.inr (.inr (.inr hm)))); omega
        clear hX' c0 c1 c2 c3 c4 c5 c6 c7 cf cc hown2 hbel2 b0 b1 b2 b3
        go_wp2_with fail
        refine wp_region_calm (S := (fun W => W.cell? ⟨p, 3, none⟩ = some (.pointer (some ⟨zs, 0, none⟩)) ∧ W.cell? ⟨p, 5, none⟩ = some (.pointer (some ⟨zm, 0, none⟩)) ∧ W.cell? ⟨p, 7, none⟩ = some (.bool true) ∧ W.cell? ⟨DB, 2, none⟩ = some (.slice x.data.A x.data.n x.data.c))) (by kernel_rfl) (show _ ∧ _ ∧ _ ∧ _ from ⟨y3, y5, y7, z2⟩) (fun hHeld => ?_)
        refine wpAnyH_take (i := 0) (v := ?_) (by simp only [List.getElem?_toArray, List.getElem?_cons_zero]; rfl) (by kernel_rfl) (by kernel_rfl) (by kernel_rfl) (by exact fun _ _ _ h => h) (Or.inl ⟨by rfl, ?_⟩) hHeld ?_
        rotate_left
        · intro w hSw
          try dsimp only at hSw
          go_simp
          all_goals with_reducible rfl
        try simp only [Act.put, List.setIfInBounds_toArray, List.set_cons_zero, List.set_cons_succ]
        refine wpAnyH_take (i := 1) (v := ?_) (by simp only [List.getElem?_toArray, List.getElem?_cons_succ, List.getElem?_cons_zero]; rfl) (by kernel_rfl) (by kernel_rfl) (by kernel_rfl) (by exact fun _ _ _ h => h) (Or.inl ⟨by rfl, ?_⟩) hHeld ?_
        rotate_left
        · intro w hSw
          try dsimp only at hSw
          go_simp
          all_goals with_reducible rfl
        try simp only [Act.put, List.setIfInBounds_toArray, List.set_cons_zero, List.set_cons_succ]
        refine wpAnyH_take (i := 2) (v := ?_) (by simp only [List.getElem?_toArray, List.getElem?_cons_succ, List.getElem?_cons_zero]; rfl) (by kernel_rfl) (by kernel_rfl) (by kernel_rfl) (by exact fun _ _ _ h => h) (Or.inl ⟨by rfl, ?_⟩) hHeld ?_
        rotate_left
        · intro w hSw
          try dsimp only at hSw
          go_simp
          all_goals with_reducible rfl
        try simp only [Act.put, List.setIfInBounds_toArray, List.set_cons_zero, List.set_cons_succ]
        refine wpAnyH_take (i := 3) (v := ?_) (by simp only [List.getElem?_toArray, List.getElem?_cons_succ, List.getElem?_cons_zero]; rfl) (by kernel_rfl) (by kernel_rfl) (by kernel_rfl) (by exact fun _ _ _ h => h) (Or.inl ⟨by rfl, ?_⟩) hHeld ?_
        rotate_left
        · intro w hSw
          try dsimp only at hSw
          go_simp
          all_goals with_reducible rfl
        try simp only [Act.put, List.setIfInBounds_toArray, List.set_cons_zero, List.set_cons_succ]
        refine wpAnyH_take (i := 4) (v := ?_) (by simp only [List.getElem?_toArray, List.getElem?_cons_succ, List.getElem?_cons_zero]; rfl) (by kernel_rfl) (by kernel_rfl) (by kernel_rfl) (by exact fun _ _ _ h => h) (Or.inl ⟨by rfl, ?_⟩) hHeld ?_
        rotate_left
        · intro w hSw
          try dsimp only at hSw
          obtain ⟨s0, s1, s2, s3⟩ := hSw
          go_simp
          all_goals with_reducible rfl
        try simp only [Act.put, List.setIfInBounds_toArray, List.set_cons_zero, List.set_cons_succ]
        refine wpAnyH_take (i := 5) (v := ?_) (by simp only [List.getElem?_toArray, List.getElem?_cons_succ, List.getElem?_cons_zero]; rfl) (by kernel_rfl) (by kernel_rfl) (by kernel_rfl) (by exact fun _ _ _ h => h) (Or.inl ⟨by rfl, ?_⟩) hHeld ?_
        rotate_left
        · intro w hSw
          try dsimp only at hSw
          go_simp
          all_goals with_reducible rfl
        try simp only [Act.put, List.setIfInBounds_toArray, List.set_cons_zero, List.set_cons_succ]
        refine wpAnyH_take (i := 6) (v := ?_) (by simp only [List.getElem?_toArray, List.getElem?_cons_succ, List.getElem?_cons_zero]; rfl) (by kernel_rfl) (by kernel_rfl) (by kernel_rfl) (by exact fun _ _ _ h => h) (Or.inl ⟨by rfl, ?_⟩) hHeld ?_
        rotate_left
        · intro w hSw
          try dsimp only at hSw
          go_simp
          all_goals with_reducible rfl
        try simp only [Act.put, List.setIfInBounds_toArray, List.set_cons_zero, List.set_cons_succ]
        refine wpAnyH_take (i := 7) (v := ?_) (by simp only [List.getElem?_toArray, List.getElem?_cons_succ, List.getElem?_cons_zero]; rfl) (by kernel_rfl) (by kernel_rfl) (by kernel_rfl) (by exact fun _ _ _ h => h) (Or.inl ⟨by rfl, ?_⟩) hHeld ?_
        rotate_left
        · intro w hSw
          try dsimp only at hSw
          go_simp
          all_goals with_reducible rfl
        try simp only [Act.put, List.setIfInBounds_toArray, List.set_cons_zero, List.set_cons_succ]
        refine wpAnyH_take (i := 8) (v := ?_) (by simp only [List.getElem?_toArray, List.getElem?_cons_succ, List.getElem?_cons_zero]; rfl) (by kernel_rfl) (by kernel_rfl) (by kernel_rfl) (by exact fun _ _ _ h => h) (Or.inl ⟨by rfl, ?_⟩) hHeld ?_
        rotate_left
        · intro w hSw
          try dsimp only at hSw
          go_simp
          all_goals with_reducible rfl
        try simp only [Act.put, List.setIfInBounds_toArray, List.set_cons_zero, List.set_cons_succ]
        refine wpAnyH_take (i := 9) (v := ?_) (by simp only [List.getElem?_toArray, List.getElem?_cons_succ, List.getElem?_cons_zero]; rfl) (by kernel_rfl) (by kernel_rfl) (by kernel_rfl) (by exact fun _ _ _ h => h) (Or.inl ⟨by rfl, ?_⟩) hHeld ?_
        rotate_left
        · intro w hSw
          try dsimp only at hSw
          obtain ⟨s0, s1, s2, s3⟩ := hSw
          go_simp
          all_goals with_reducible rfl
        try simp only [Act.put, List.setIfInBounds_toArray, List.set_cons_zero, List.set_cons_succ]
        refine wpAnyH_take (i := 10) (v := ?_) (by simp only [List.getElem?_toArray, List.getElem?_cons_succ, List.getElem?_cons_zero]; rfl) (by kernel_rfl) (by kernel_rfl) (by kernel_rfl) (by exact fun _ _ _ h => h) (Or.inl ⟨by rfl, ?_⟩) hHeld ?_
        rotate_left
        · intro w hSw
          try dsimp only at hSw
          go_simp
          all_goals with_reducible rfl
        try simp only [Act.put, List.setIfInBounds_toArray, List.set_cons_zero, List.set_cons_succ]
        refine wpAnyH_take (i := 12) (v := ?_) (by simp only [List.getElem?_toArray, List.getElem?_cons_succ, List.getElem?_cons_zero]; rfl) (by kernel_rfl) (by kernel_rfl) (by kernel_rfl) (by exact fun _ _ _ h => h) (Or.inl ⟨by rfl, ?_⟩) hHeld ?_
        rotate_left
        · intro w hSw
          try dsimp only at hSw
          go_simp
          all_goals with_reducible rfl
        try simp only [Act.put, List.setIfInBounds_toArray, List.set_cons_zero, List.set_cons_succ]
        refine wpAnyH_take (i := 13) (v := ?_) (by simp only [List.getElem?_toArray, List.getElem?_cons_succ, List.getElem?_cons_zero]; rfl) (by kernel_rfl) (by kernel_rfl) (by kernel_rfl) (by exact fun _ _ _ h => h) (Or.inl ⟨by rfl, ?_⟩) hHeld ?_
        rotate_left
        · intro w hSw
          try dsimp only at hSw
          go_simp
          all_goals with_reducible rfl
        try simp only [Act.put, List.setIfInBounds_toArray, List.set_cons_zero, List.set_cons_succ]
        refine wpAnyH_take (i := 14) (v := ?_) (by simp only [List.getElem?_toArray, List.getElem?_cons_succ, List.getElem?_cons_zero]; rfl) (by kernel_rfl) (by kernel_rfl) (by kernel_rfl) (by exact fun _ _ _ h => h) (Or.inl ⟨by rfl, ?_⟩) hHeld ?_
        rotate_left
        · intro w hSw
          try dsimp only at hSw
          go_simp
          all_goals with_reducible rfl
        try simp only [Act.put, List.setIfInBounds_toArray, List.set_cons_zero, List.set_cons_succ]
        refine wpAnyH_take (i := 15) (v := ?_) (by simp only [List.getElem?_toArray, List.getElem?_cons_succ, List.getElem?_cons_zero]; rfl) (by kernel_rfl) (by kernel_rfl) (by kernel_rfl) (by exact fun _ _ _ h => h) (Or.inl ⟨by rfl, ?_⟩) hHeld ?_
        rotate_left
        · intro w hSw
          try dsimp only at hSw
          obtain ⟨s0, s1, s2, s3⟩ := hSw
          go_simp
          all_goals with_reducible rfl
        try simp only [Act.put, List.setIfInBounds_toArray, List.set_cons_zero, List.set_cons_succ]
        refine wpAnyH_take (i := 16) (v := ?_) (by simp only [List.getElem?_toArray, List.getElem?_cons_succ, List.getElem?_cons_zero]; rfl) (by kernel_rfl) (by kernel_rfl) (by kernel_rfl) (by exact fun _ _ _ h => h) (Or.inl ⟨by rfl, ?_⟩) hHeld ?_
        rotate_left
        · intro w hSw
          try dsimp only at hSw
          go_simp
          all_goals with_reducible rfl
        try simp only [Act.put, List.setIfInBounds_toArray, List.set_cons_zero, List.set_cons_succ]
        refine wpAnyH_take (i := 17) (v := ?_) (by simp only [List.getElem?_toArray, List.getElem?_cons_succ, List.getElem?_cons_zero]; rfl) (by kernel_rfl) (by kernel_rfl) (by kernel_rfl) (by exact fun _ _ _ h => h) (Or.inl ⟨by rfl, ?_⟩) hHeld ?_
        rotate_left
        · intro w hSw
          try dsimp only at hSw
          obtain ⟨s0, s1, s2, s3⟩ := hSw
          go_simp
          all_goals with_reducible rfl
        try simp only [Act.put, List.setIfInBounds_toArray, List.set_cons_zero, List.set_cons_succ]
        refine wpAnyH_ready (rs := [11]) (by kernel_rfl) (by simp) ?_
        refine AllReadyH.cons (by simp only [List.getElem?_toArray, List.getElem?_cons_succ, List.getElem?_cons_zero]; rfl) (fun K hK => ?_) AllReadyH.nil
        go_simp
        refine (ca _ (Kept.drew [] w2)).mono ?_
        rintro e w4 ⟨rfl, fp4, S4, hD4, hS4, hk4, hn4, hm4, ho4⟩
        obtain ⟨t4, hP4⟩ := (hP2.next (Kept.drew [] w2)).str (os' := some X.1) hD4 ⟨zs, rfl, hS4⟩ hk4 hn4 hm4 ho4 hS4.lt
        have e4 := pr_cells hP4.head
        have hDfs : DB ∉ fp ++ S := fun hm => by rcases List.mem_append.mp hm with hm | hm; exact hd2.nf hm; exact hd2.nS hm
        have hb4 : w4.heap[DB]? = some (.cells x.cells 80 (0, 0)) := (hk4.block DB (World.lt_of_heap hd2.blk) hDfs).trans hd2.blk
        have z4 : w4.cell? ⟨DB, 2, none⟩ = some (.slice x.data.A x.data.n x.data.c) := by rw [blk_cell hb4]; rfl
        have hsA4 := (hs2.kept (Kept.drew [] w2) (by simp)).keptP hk4 (fun p' e _ => (hAout p' e).1)
        have hsD4 := (hdat2.kept (Kept.drew [] w2) (by simp)).keptP hk4 (fun p' e hn => (hDout p' e hn).1)
        have hG4 := (hG2.kept (Kept.drew [] w2) (by simp)).kept hk4 (fun j hj hm => by rcases List.mem_append.mp hm with hm | hm; (have h1 := hP2.tG j hj; have h2 := hP2.tf j hm; omega); (have h1 := hP2.tG j hj; have h2 := hP2.tS j hm; omega))
        go_wp2_with fail
        refine hK.out _ _ ?_ (fun hHeld2 => ?_)
        · exact ⟨e4.2.2.2.1, e4.2.2.2.2.2.1, e4.2.2.2.2.2.2.2.1, z4⟩
        clear hK K hHeld
        have hHeld := hHeld2
        clear hHeld2
        try simp only [Act.put, List.setIfInBounds_toArray, List.set_cons_zero, List.set_cons_succ]
        refine wpAnyH_ready (rs := [18]) (by kernel_rfl) (by simp) ?_
        refine AllReadyH.cons (by simp only [List.getElem?_toArray, List.getElem?_cons_succ, List.getElem?_cons_zero]; rfl) (fun K hK => ?_) AllReadyH.nil
        go_simp
        refine (ref12Append_any hP4.rv hdw hG4 hne2 g1 x.data.A x.data.n x.data.c x.data.xs hsD4 hx.data.2 (by omega)).mono ?_
        rintro e w5 ⟨rfl, gp5, G5, B5, hR5, hT5, hk5, hn5, hm5, ho5⟩
        rw [HXX.out] at hR5 hT5 ⊢
        obtain ⟨t5, hP5⟩ := hP4.rst (om' := some X.1) hR5 ⟨zm, B5, rfl, hT5⟩ hk5 hn5 hm5 ho5 hT5.lt
        have e5 := pr_cells hP5.head
        have hDgg : DB ∉ gp ++ G := fun hm => by rcases List.mem_append.mp hm with hm | hm; exact hd2.ng hm; exact hd2.nG hm
        have hb5 : w5.heap[DB]? = some (.cells x.cells 80 (0, 0)) := (hk5.block DB (World.lt_of_heap hb4) hDgg).trans hb4
        have z5 : w5.cell? ⟨DB, 2, none⟩ = some (.slice x.data.A x.data.n x.data.c) := by rw [blk_cell hb5]; rfl
        have hsA5 := hsA4.keptP hk5 (fun p' e _ => (hAout p' e).2)
        have hsD5 := hsD4.keptP hk5 (fun p' e hn => (hDout p' e hn).2)
        go_wp2_with fail
        refine hK.out _ _ ?_ (fun hHeld2 => ?_)
        · exact ⟨e5.2.2.2.1, e5.2.2.2.2.2.1, e5.2.2.2.2.2.2.2.1, z5⟩
        clear hK K hHeld
        have hHeld := hHeld2
        clear hHeld2
        try simp only [Act.put, List.setIfInBounds_toArray, List.set_cons_zero, List.set_cons_succ]
        refine wpAnyH_take (i := 19) (v := ?_) (by simp only [List.getElem?_toArray, List.getElem?_cons_succ, List.getElem?_cons_zero]; rfl) (by kernel_rfl) (by kernel_rfl) (by kernel_rfl) (by exact fun _ _ _ h => h) (Or.inl ⟨by rfl, ?_⟩) hHeld ?_
        rotate_left
        · intro w hSw
          try dsimp only at hSw
          go_simp
          all_goals with_reducible rfl
        try simp only [Act.put, List.setIfInBounds_toArray, List.set_cons_zero, List.set_cons_succ]
        refine wpAnyH_take (i := 20) (v := ?_) (by simp only [List.getElem?_toArray, List.getElem?_cons_succ, List.getElem?_cons_zero]; rfl) (by kernel_rfl) (by kernel_rfl) (by kernel_rfl) (by exact fun _ _ _ h => h) (Or.inl ⟨by rfl, ?_⟩) hHeld ?_
        rotate_left
        · intro w hSw
          try dsimp only at hSw
          go_simp
          all_goals with_reducible rfl
        try simp only [Act.put, List.setIfInBounds_toArray, List.set_cons_zero, List.set_cons_succ]
        refine wpAnyH_take (i := 21) (v := ?_) (by simp only [List.getElem?_toArray, List.getElem?_cons_succ, List.getElem?_cons_zero]; rfl) (by kernel_rfl) (by kernel_rfl) (by kernel_rfl) (by exact fun _ _ _ h => h) (Or.inl ⟨by rfl, ?_⟩) hHeld ?_
        rotate_left
        · intro w hSw
          try dsimp only at hSw
          go_simp
          all_goals with_reducible rfl
        try simp only [Act.put, List.setIfInBounds_toArray, List.set_cons_zero, List.set_cons_succ]
        refine wpAnyH_take (i := 22) (v := ?_) (by simp only [List.getElem?_toArray, List.getElem?_cons_succ, List.getElem?_cons_zero]; rfl) (by kernel_rfl) (by kernel_rfl) (by kernel_rfl) (by exact fun _ _ _ h => h) (Or.inl ⟨by rfl, ?_⟩) hHeld ?_
        rotate_left
        · intro w hSw
          try dsimp only at hSw
          go_simp
          all_goals with_reducible rfl
        try simp only [Act.put, List.setIfInBounds_toArray, List.set_cons_zero, List.set_cons_succ]
        refine wpAnyH_take (i := 23) (v := ?_) (by simp only [List.getElem?_toArray, List.getElem?_cons_succ, List.getElem?_cons_zero]; rfl) (by kernel_rfl) (by kernel_rfl) (by kernel_rfl) (by exact fun _ _ _ h => h) (Or.inl ⟨by rfl, ?_⟩) hHeld ?_
        rotate_left
        · intro w hSw
          try dsimp only at hSw
          go_simp
          all_goals with_reducible rfl
        try simp only [Act.put, List.setIfInBounds_toArray, List.set_cons_zero, List.set_cons_succ]
        refine wpAnyH_take (i := 24) (v := ?_) (by simp only [List.getElem?_toArray, List.getElem?_cons_succ, List.getElem?_cons_zero]; rfl) (by kernel_rfl) (by kernel_rfl) (by kernel_rfl) (by exact fun _ _ _ h => h) (Or.inl ⟨by rfl, ?_⟩) hHeld ?_
        rotate_left
        · intro w hSw
          try dsimp only at hSw
          obtain ⟨s0, s1, s2, s3⟩ := hSw
          go_simp
          all_goals with_reducible rfl
        try simp only [Act.put, List.setIfInBounds_toArray, List.set_cons_zero, List.set_cons_succ]
        refine wpAnyH_ready (rs := [25]) (by kernel_rfl) (by simp) ?_
        refine AllReadyH.cons (by simp only [List.getElem?_toArray, List.getElem?_cons_succ, List.getElem?_cons_zero]; rfl) (fun K hK => ?_) AllReadyH.nil
        go_simp
        refine (eqb_true w5 A2 x.data.A x.data.n n2 x.data.n x.data.c x.data.xs hsA5 hsD5).mono ?_
        rintro e w6 ⟨rfl, k6⟩
        have hP6 := hP5.next k6
        obtain ⟨e60, e61, e62, e63, e64, e65, e66, e67, e6f⟩ := pr_cells hP6.head
        have hh7 := heap_set hP6.head 7 (.bool true)
        have h7 := pr_cells (w := w6.setCell ⟨p, 7, none⟩ (.bool true)) (p := p) (a := a) (r := r) (f := f) (m := m) (sure := sure) (vs := .pointer (some ⟨zs, 0, none⟩)) (vm := .pointer (some ⟨zm, 0, none⟩)) (b := true) hh7
        have hk7 : Kept [p] w6 (w6.setCell ⟨p, 7, none⟩ (.bool true)) := Kept.setCell (by simp) _
        have z6 : w6.cell? ⟨DB, 2, none⟩ = some (.slice x.data.A x.data.n x.data.c) := (k6.cell (p := ⟨DB, 2, none⟩) (World.lt_of_heap hb5) (by simp)).trans z5
        have z7 : (w6.setCell ⟨p, 7, none⟩ (.bool true)).cell? ⟨DB, 2, none⟩ = some (.slice x.data.A x.data.n x.data.c) := (hk7.cell (p := ⟨DB, 2, none⟩) (Nat.lt_of_lt_of_le (World.lt_of_heap hb5) k6.size) (by simpa using hd2.np)).trans z6
        go_wp2_with fail
        refine hK.out _ _ ?_ (fun hHeld2 => ?_)
        · exact ⟨e63, e65, e67, z6⟩
        clear hK K hHeld
        have hHeld := hHeld2
        clear hHeld2
        try simp only [Act.put, List.setIfInBounds_toArray, List.set_cons_zero, List.set_cons_succ]
        refine wpAnyH_take (i := 26) (v := ?_) (by simp only [List.getElem?_toArray, List.getElem?_cons_succ, List.getElem?_cons_zero]; rfl) (by kernel_rfl) (by kernel_rfl) (by kernel_rfl) (by exact fun _ _ _ h => h) (Or.inl ⟨by rfl, ?_⟩) hHeld ?_
        rotate_left
        · intro w hSw
          try dsimp only at hSw
          go_simp
          all_goals with_reducible rfl
        try simp only [Act.put, List.setIfInBounds_toArray, List.set_cons_zero, List.set_cons_succ]
        refine wpAnyH_take (i := 27) (v := ?_) (by simp only [List.getElem?_toArray, List.getElem?_cons_succ, List.getElem?_cons_zero]; rfl) (by kernel_rfl) (by kernel_rfl) (by kernel_rfl) (by exact fun _ _ _ h => h) (Or.inl ⟨by rfl, ?_⟩) hHeld ?_
        rotate_left
        · intro w hSw
          try dsimp only at hSw
          go_simp
          all_goals with_reducible rfl
        try simp only [Act.put, List.setIfInBounds_toArray, List.set_cons_zero, List.set_cons_succ]
        refine wpAnyH_take (i := 28) (v := ?_) (by simp only [List.getElem?_toArray, List.getElem?_cons_succ, List.getElem?_cons_zero]; rfl) (by kernel_rfl) (by kernel_rfl) (by kernel_rfl) (by exact fun _ _ _ h => h) (Or.inl ⟨by rfl, ?_⟩) hHeld ?_
        rotate_left
        · intro w hSw
          try dsimp only at hSw
          go_simp
          all_goals with_reducible rfl
        try simp only [Act.put, List.setIfInBounds_toArray, List.set_cons_zero, List.set_cons_succ]
        refine wpAnyH_ready (rs := [29]) (by kernel_rfl) (by simp) ?_
        refine AllReadyH.cons (by simp only [List.getElem?_toArray, List.getElem?_cons_succ, List.getElem?_cons_zero]; rfl) (fun K hK => ?_) AllReadyH.nil
        go_simp
        refine hK.out _ _ ?_ (fun hHeld2 => ?_)
        · exact ⟨h7.2.2.2.1, h7.2.2.2.2.2.1, h7.2.2.2.2.2.2.2.1, z7⟩
        clear hK K hHeld
        have hHeld := hHeld2
        clear hHeld2
        try simp only [Act.put, List.setIfInBounds_toArray, List.set_cons_zero, List.set_cons_succ]
        refine wpAnyH_calm (by kernel_rfl) ?_ _
        clear hHeld
        obtain ⟨t7, hP7⟩ := hP6.own hk7 (sure' := sure) hh7
        go_wp2_with fail
        go_end0
        exact ⟨rfl, sure, X.2.1, some X.1, ⟨_, _, _, _, _, _, _, hP7⟩, fun s' hs' => by cases hs'; exact ⟨q1, g2, g3, q4.trans g4, q5.trans g5⟩, hxw, by rw [q2]; exact h.len, h.fI, h.mI, h.sI⟩
  · as_aux_lemma =>
      cases os with
      | none =>
        have hm0 : vm = .pointer none := hP1.rt
        subst hm0
        go_wp2_with fail
        go_end0
        exact ⟨rfl, sure, d, none, hX.ex, hX.wf, by push_cast; omega, hX.len, hX.fI, hX.mI, hX.sI⟩
      | some s =>
        obtain ⟨zm, B, hvm, hG⟩ := hP1.rt
        subst hvm
        obtain ⟨g1, g2, g3, g4, g5⟩ := h.wf s rfl
        obtain ⟨AB, cB, hz', -, -, -⟩ := hG.head
        have m3 : W.cell? ⟨zm, 3, none⟩ = some (.int .i64 s.fin) := by rw [blk_cell hz']; rfl
        have hlen := h.len
        have hfin := g1.fin; have hth := g1.there
        have co := pairOpens12_any hX (s.fin : Int) (by unfold I64; omega)
        clear g1 g2 g3 g4 g5
        go_wp2_with fail
        refine co.mono ?_
        rintro e w4 ⟨rfl, os', h4⟩
        go_wp2_with fail
        go_end0
        exact ⟨rfl, sure, d, os', h4.ex, h4.wf, by push_cast; omega, h4.len, h4.fI, h4.mI, h4.sI⟩
  · as_aux_lemma =>
      have co := pairOpens12_any hX x.num hx.num
      go_wp2_with fail
      refine co.mono ?_
      rintro e w4 ⟨rfl, os', h4⟩
      go_wp2_with fail
      go_end0
      exact ⟨rfl, sure, d, os', h4.ex, h4.wf, by push_cast; omega, h4.len, h4.fI, h4.mI, h4.sI⟩
  · as_aux_lemma =>
      have cw := flush_dv hP1.dv (by omega)
      obtain ⟨X, hX'⟩ : ∃ X, d.flush = X := ⟨_, rfl⟩
      rw [hX'] at cw dl1 dw1
      have HXX := Lib.hid hX'
      clear hX'
      go_wp2_with fail
      refine cw.mono ?_
      rintro e w4 ⟨rfl, fp4, hD4, hk4, hn4⟩
      obtain ⟨t4, hP4⟩ := hP1.dev hD4 hk4 hn4
      have cv := rv_flush hP4.rv hdw (by omega)
      rw [HXX.out] at cv
      obtain ⟨y0, y1, y2, y3, y4, y5, y6, y7, yf⟩ := pr_cells hP4.head
      clear cw c0 c1 c2 c3 c4 c5 c6 c7 cf
      go_wp2_with fail
      refine cv.mono ?_
      rintro e w5 ⟨rfl, gp5, hR5, hk5, hn5⟩
      obtain ⟨t5, hP5⟩ := hP4.ref hR5 hk5 hn5
      have hX5 := hX.both (k' := k + 1) hP5 dl1 (by push_cast; omega)
      obtain ⟨z0, z1, z2, z3, z4, z5, z6, z7, zf⟩ := pr_cells hP5.head
      have hh1 := heap_set hP5.head 7 (.bool true)
      have hk1 : Kept [p] w5 (w5.setCell ⟨p, 7, none⟩ (.bool true)) := Kept.setCell (by simp) _
      obtain ⟨t6, hP6⟩ := hP5.own hk1 (sure' := sure) hh1
      have hX6 := hX.both (k' := k + 1) hP6 dl1 (by push_cast; omega)
      clear cv y0 y1 y2 y3 y4 y5 y6 y7 yf
      obtain ⟨d5, n5⟩ := X
      simp only at hP5 hX5 hP6 hX6 dl1 dw1
      by_cases h0 : n5 = 0
      · subst h0
        cases os with
        | none =>
          have hm0 : vm = .pointer none := hP5.rt
          subst hm0
          go_wp2_with fail
          go_end0
          exact ⟨rfl, sure, d5, none, hX6⟩
        | some s =>
          obtain ⟨zm, B, hvm, hG⟩ := hP6.rt
          subst hvm
          obtain ⟨AB, cB, hz', -, -, -⟩ := hG.head
          have m3 : (w5.setCell ⟨p, 7, none⟩ (.bool true)).cell? ⟨zm, 3, none⟩ = some (.int .i64 s.fin) := by rw [blk_cell hz']; rfl
          obtain ⟨x0, x1, x2, x3, x4, x5, x6, x7, xf⟩ := pr_cells hP6.head
          have hh2 := heap_set hh1 6 (.int .i64 (s.fin : Int))
          obtain ⟨t7, hP7⟩ := hP6.own (Kept.setCell (F := [p]) (by simp) _) (sure' := (s.fin : Int)) hh2
          obtain ⟨g1, g2⟩ := h.wf s rfl
          have hlen := h.len
          have hfin := g1.fin; have hth := g1.there
          have hX7 := hX6.wf
          have hfI : I64 (s.fin : Int) := by unfold I64; omega
          have hm0 : p ≠ zm := fun e => by
            have h1 := hP6.tG zm hG.zin
            have h2 := hP6.tp
            rw [e] at h2
            omega
          clear g1 g2
          go_wp2_with fail
          go_end0
          exact ⟨rfl, (s.fin : Int), d5, some s, ⟨_, _, _, _, _, _, _, hP7⟩, hX6.wf, hX6.works, hX6.len, hX6.fI, hX6.mI, hfI⟩
      · go_wp2_with fail
        go_end0
        exact ⟨rfl, sure, d5, os, hX6⟩
  · as_aux_lemma =>
      have ko := fun W' (hk : Kept [] w0 W') => (keep_out hx hk (F := fp) lf).1
      have cw4 := fun W' (hk : Kept [] W W') => crash_dv (hP1.dv.new_kept hk) x.keepA x.keepn x.keepc x.keep (ko _ (hP1.kept.trans hk)) (keep_out hx hP1.kept lf).2
      go_wp2_with fail
      refine wp_region_calm (S := (fun W => W.cell? ⟨p, 2, none⟩ = some (.pointer (some ⟨a, 0, none⟩)) ∧ W.cell? ⟨DB, 3, none⟩ = some (.slice x.keepA x.keepn x.keepc))) (by kernel_rfl) (show _ ∧ _ from ⟨c2, b3⟩) (fun hHeld => ?_)
      refine wpAnyH_take (i := 0) (v := ?_) (by simp only [List.getElem?_toArray, List.getElem?_cons_zero]; rfl) (by kernel_rfl) (by kernel_rfl) (by kernel_rfl) (by exact fun _ _ _ h => h) (Or.inl ⟨by rfl, ?_⟩) hHeld ?_
      rotate_left
      · intro w hSw
        try dsimp only at hSw
        go_simp
        all_goals with_reducible rfl
      try simp only [Act.put, List.setIfInBounds_toArray, List.set_cons_zero, List.set_cons_succ]
      refine wpAnyH_take (i := 1) (v := ?_) (by simp only [List.getElem?_toArray, List.getElem?_cons_succ, List.getElem?_cons_zero]; rfl) (by kernel_rfl) (by kernel_rfl) (by kernel_rfl) (by exact fun _ _ _ h => h) (Or.inl ⟨by rfl, ?_⟩) hHeld ?_
      rotate_left
      · intro w hSw
        try dsimp only at hSw
        go_simp
        all_goals with_reducible rfl
      try simp only [Act.put, List.setIfInBounds_toArray, List.set_cons_zero, List.set_cons_succ]
      refine wpAnyH_take (i := 2) (v := ?_) (by simp only [List.getElem?_toArray, List.getElem?_cons_succ, List.getElem?_cons_zero]; rfl) (by kernel_rfl) (by kernel_rfl) (by kernel_rfl) (by exact fun _ _ _ h => h) (Or.inl ⟨by rfl, ?_⟩) hHeld ?_
      rotate_left
      · intro w hSw
        try dsimp only at hSw
        go_simp
        all_goals with_reducible rfl
      try simp only [Act.put, List.setIfInBounds_toArray, List.set_cons_zero, List.set_cons_succ]
      refine wpAnyH_take (i := 3) (v := ?_) (by simp only [List.getElem?_toArray, List.getElem?_cons_succ, List.getElem?_cons_zero]; rfl) (by kernel_rfl) (by kernel_rfl) (by kernel_rfl) (by exact fun _ _ _ h => h) (Or.inl ⟨by rfl, ?_⟩) hHeld ?_
      rotate_left
      · intro w hSw
        try dsimp only at hSw
        obtain ⟨s0, s1⟩ := hSw
        go_simp
        all_goals with_reducible rfl
      try simp only [Act.put, List.setIfInBounds_toArray, List.set_cons_zero, List.set_cons_succ]
      refine wpAnyH_take (i := 4) (v := ?_) (by simp only [List.getElem?_toArray, List.getElem?_cons_succ, List.getElem?_cons_zero]; rfl) (by kernel_rfl) (by kernel_rfl) (by kernel_rfl) (by exact fun _ _ _ h => h) (Or.inl ⟨by rfl, ?_⟩) hHeld ?_
      rotate_left
      · intro w hSw
        try dsimp only at hSw
        go_simp
        all_goals with_reducible rfl
      try simp only [Act.put, List.setIfInBounds_toArray, List.set_cons_zero, List.set_cons_succ]
      refine wpAnyH_take (i := 5) (v := ?_) (by simp only [List.getElem?_toArray, List.getElem?_cons_succ, List.getElem?_cons_zero]; rfl) (by kernel_rfl) (by kernel_rfl) (by kernel_rfl) (by exact fun _ _ _ h => h) (Or.inl ⟨by rfl, ?_⟩) hHeld ?_
      rotate_left
      · intro w hSw
        try dsimp only at hSw
        obtain ⟨s0, s1⟩ := hSw
        go_simp
        all_goals with_reducible rfl
      try simp only [Act.put, List.setIfInBounds_toArray, List.set_cons_zero, List.set_cons_succ]
      refine wpAnyH_ready (rs := [6]) (by kernel_rfl) (by simp) ?_
      refine AllReadyH.cons (by simp only [List.getElem?_toArray, List.getElem?_cons_succ, List.getElem?_cons_zero]; rfl) (fun K hK => ?_) AllReadyH.nil
      go_simp
      refine (cw4 _ (Kept.drew [] W)).mono ?_
      rintro e w4 ⟨rfl, fp4, hD4, hk4, hn4⟩
      obtain ⟨t4, hP4⟩ := (hP1.next (Kept.drew [] W)).dev hD4 hk4 hn4
      have hd4 := hdb.drew.dev hk4 hn4
      have y4 := pr_cells hP4.head
      have z4 := hd4.cells
      go_wp2_with fail
      refine hK.out _ _ ?_ (fun hHeld2 => ?_)
      · exact ⟨y4.2.2.1, z4.2.2.2⟩
      clear hK K hHeld
      have hHeld := hHeld2
      clear hHeld2
      try simp only [Act.put, List.setIfInBounds_toArray, List.set_cons_zero, List.set_cons_succ]
      refine wpAnyH_calm (by kernel_rfl) ?_ _
      clear hHeld cw4
      have cv5 := fun W' (hk : Kept [] w4 W') => rv_crash (hP4.rv.new_kept hk) hdw x.keepA x.keepn x.keepc x.keep (ko _ (hP4.kept.trans hk)) (keep_out hx hP4.kept lg).2 hx.keepI
      go_wp2_with fail
      refine wp_region_calm (S := (fun W => W.cell? ⟨p, 4, none⟩ = some (.pointer (some ⟨r, 0, none⟩)) ∧ W.cell? ⟨DB, 3, none⟩ = some (.slice x.keepA x.keepn x.keepc))) (by kernel_rfl) (show _ ∧ _ from ⟨y4.2.2.2.2.1, z4.2.2.2⟩) (fun hHeld => ?_)
      refine wpAnyH_take (i := 0) (v := ?_) (by simp only [List.getElem?_toArray, List.getElem?_cons_zero]; rfl) (by kernel_rfl) (by kernel_rfl) (by kernel_rfl) (by exact fun _ _ _ h => h) (Or.inl ⟨by rfl, ?_⟩) hHeld ?_
      rotate_left
      · intro w hSw
        try dsimp only at hSw
        go_simp
        all_goals with_reducible rfl
      try simp only [Act.put, List.setIfInBounds_toArray, List.set_cons_zero, List.set_cons_succ]
      refine wpAnyH_take (i := 1) (v := ?_) (by simp only [List.getElem?_toArray, List.getElem?_cons_succ, List.getElem?_cons_zero]; rfl) (by kernel_rfl) (by kernel_rfl) (by kernel_rfl) (by exact fun _ _ _ h => h) (Or.inl ⟨by rfl, ?_⟩) hHeld ?_
      rotate_left
      · intro w hSw
        try dsimp only at hSw
        go_simp
        all_goals with_reducible rfl
      try simp only [Act.put, List.setIfInBounds_toArray, List.set_cons_zero, List.set_cons_succ]
      refine wpAnyH_take (i := 2) (v := ?_) (by simp only [List.getElem?_toArray, List.getElem?_cons_succ, List.getElem?_cons_zero]; rfl) (by kernel_rfl) (by kernel_rfl) (by kernel_rfl) (by exact fun _ _ _ h => h) (Or.inl ⟨by rfl, ?_⟩) hHeld ?_
      rotate_left
      · intro w hSw
        try dsimp only at hSw
        go_simp
        all_goals with_reducible rfl
      try simp only [Act.put, List.setIfInBounds_toArray, List.set_cons_zero, List.set_cons_succ]
      refine wpAnyH_take (i := 3) (v := ?_) (by simp only [List.getElem?_toArray, List.getElem?_cons_succ, List.getElem?_cons_zero]; rfl) (by kernel_rfl) (by kernel_rfl) (by kernel_rfl) (by exact fun _ _ _ h => h) (Or.inl ⟨by rfl, ?_⟩) hHeld ?_
      rotate_left
      · intro w hSw
        try dsimp only at hSw
        obtain ⟨s0, s1⟩ := hSw
        go_simp
        all_goals with_reducible rfl
      try simp only [Act.put, List.setIfInBounds_toArray, List.set_cons_zero, List.set_cons_succ]
      refine wpAnyH_take (i := 4) (v := ?_) (by simp only [List.getElem?_toArray, List.getElem?_cons_succ, List.getElem?_cons_zero]; rfl) (by kernel_rfl) (by kernel_rfl) (by kernel_rfl) (by exact fun _ _ _ h => h) (Or.inl ⟨by rfl, ?_⟩) hHeld ?_
      rotate_left
      · intro w hSw
        try dsimp only at hSw
        go_simp
        all_goals with_reducible rfl
      try simp only [Act.put, List.setIfInBounds_toArray, List.set_cons_zero, List.set_cons_succ]
      refine wpAnyH_take (i := 5) (v := ?_) (by simp only [List.getElem?_toArray, List.getElem?_cons_succ, List.getElem?_cons_zero]; rfl) (by kernel_rfl) (by kernel_rfl) (by kernel_rfl) (by exact fun _ _ _ h => h) (Or.inl ⟨by rfl, ?_⟩) hHeld ?_
      rotate_left
      · intro w hSw
        try dsimp only at hSw
        obtain ⟨s0, s1⟩ := hSw
        go_simp
        all_goals with_reducible rfl
      try simp only [Act.put, List.setIfInBounds_toArray, List.set_cons_zero, List.set_cons_succ]
      refine wpAnyH_ready (rs := [6]) (by kernel_rfl) (by simp) ?_
      refine AllReadyH.cons (by simp only [List.getElem?_toArray, List.getElem?_cons_succ, List.getElem?_cons_zero]; rfl) (fun K hK => ?_) AllReadyH.nil
      go_simp
      refine (cv5 _ (Kept.drew [] w4)).mono ?_
      rintro e w5 ⟨rfl, gp5, hR5, hk5, hn5⟩
      obtain ⟨t5, hP5⟩ := (hP4.next (Kept.drew [] w4)).ref hR5 hk5 hn5
      have hd5 := hd4.drew.ref hk5 hn5
      have y5 := pr_cells hP5.head
      have z5 := hd5.cells
      go_wp2_with fail
      refine hK.out _ _ ?_ (fun hHeld2 => ?_)
      · exact ⟨y5.2.2.2.2.1, z5.2.2.2⟩
      clear hK K hHeld
      have hHeld := hHeld2
      clear hHeld2
      try simp only [Act.put, List.setIfInBounds_toArray, List.set_cons_zero, List.set_cons_succ]
      refine wpAnyH_calm (by kernel_rfl) ?_ _
      clear hHeld cv5
      have hX5 := hX.both (k' := k + 1) hP5 (dl2 _) (by rw [dw2]; push_cast; omega)
      obtain ⟨d5, hd5'⟩ : ∃ d5, (d.crash x.keep).1 = d5 := ⟨_, rfl⟩
      rw [hd5'] at hP5 hX5
      obtain ⟨e0, e1, e2, e3, e4, e5, e6, e7, ef⟩ := y5
      have cb1 := boot_dv hP5.dv
      clear hd5'
      go_wp2_with fail
      refine cb1.mono ?_
      rintro e w6 ⟨rfl, fp6, hD6, hk6, hn6⟩
      obtain ⟨t6, hP6⟩ := hP5.dev hD6 hk6 hn6
      have y6 := pr_cells hP6.head
      obtain ⟨f0, f1, f2, f3, f4, f5, f6, f7, ff⟩ := y6
      have cb2 := rv_boot hP6.rv
      clear cb1 e0 e1 e2 e3 e4 e5 e6 e7 ef
      go_wp2_with fail
      refine cb2.mono ?_
      rintro e w7 ⟨rfl, gp7, hR7, hk7, hn7⟩
      obtain ⟨t7, hP7⟩ := hP6.ref hR7 hk7 hn7
      have hX7 := hX5.both (k' := k + 1) hP7 rfl hX5.works
      have y7 := pr_cells hP7.head
      obtain ⟨g0, g1, g2, g3, g4, g5, g6, g7, gf⟩ := y7
      have co := pairOpens12_any hX7 sure hX7.sI
      clear cb2 f0 f1 f2 f3 f4 f5 f6 f7 ff
      go_wp2_with fail
      refine co.mono ?_
      rintro e w8 ⟨rfl, os', h8⟩
      go_wp2_with fail
      go_end0
      exact ⟨rfl, sure, _, os', h8⟩
  · as_aux_lemma =>
      obtain ⟨n9, hn9⟩ : ∃ n9 : Nat, x.num % 9 = n9 := ⟨(x.num % 9).toNat, by omega⟩
      have hn9l : n9 < 9 := by omega
      have cb9 := fun W => bring_any x.num 9 W (by omega) (by omega) hx.num.1 hx.num.2
      rw [hn9] at cb9
      clear hn9
      have ko := fun W' (hk : Kept [] w0 W') => (keep_out hx hk (F := fp) lf).1
      go_wp2_with fail
      refine (cb9 _).mono ?_
      rintro e w3 ⟨rfl, rfl⟩
      clear cb9
      have cw4 := fun W' (hk : Kept [] W W') => fail_dv (hP1.dv.new_kept hk) (n9 : Int) (by omega) (by omega) x.keepA x.keepn x.keepc x.keep (ko _ (hP1.kept.trans hk)) hx.keepL hx.keepI
      go_wp2_with fail
      refine wp_region_calm (S := (fun W => W.cell? ⟨p, 2, none⟩ = some (.pointer (some ⟨a, 0, none⟩)) ∧ W.cell? ⟨DB, 3, none⟩ = some (.slice x.keepA x.keepn x.keepc))) (by kernel_rfl) (show _ ∧ _ from ⟨c2, b3⟩) (fun hHeld => ?_)
      refine wpAnyH_take (i := 0) (v := ?_) (by simp only [List.getElem?_toArray, List.getElem?_cons_zero]; rfl) (by kernel_rfl) (by kernel_rfl) (by kernel_rfl) (by exact fun _ _ _ h => h) (Or.inl ⟨by rfl, ?_⟩) hHeld ?_
      rotate_left
      · intro w hSw
        try dsimp only at hSw
        go_simp
        all_goals with_reducible rfl
      try simp only [Act.put, List.setIfInBounds_toArray, List.set_cons_zero, List.set_cons_succ]
      refine wpAnyH_take (i := 1) (v := ?_) (by simp only [List.getElem?_toArray, List.getElem?_cons_succ, List.getElem?_cons_zero]; rfl) (by kernel_rfl) (by kernel_rfl) (by kernel_rfl) (by exact fun _ _ _ h => h) (Or.inl ⟨by rfl, ?_⟩) hHeld ?_
      rotate_left
      · intro w hSw
        try dsimp only at hSw
        go_simp
        all_goals with_reducible rfl
      try simp only [Act.put, List.setIfInBounds_toArray, List.set_cons_zero, List.set_cons_succ]
      refine wpAnyH_take (i := 2) (v := ?_) (by simp only [List.getElem?_toArray, List.getElem?_cons_succ, List.getElem?_cons_zero]; rfl) (by kernel_rfl) (by kernel_rfl) (by kernel_rfl) (by exact fun _ _ _ h => h) (Or.inl ⟨by rfl, ?_⟩) hHeld ?_
      rotate_left
      · intro w hSw
        try dsimp only at hSw
        go_simp
        all_goals with_reducible rfl
      try simp only [Act.put, List.setIfInBounds_toArray, List.set_cons_zero, List.set_cons_succ]
      refine wpAnyH_take (i := 3) (v := ?_) (by simp only [List.getElem?_toArray, List.getElem?_cons_succ, List.getElem?_cons_zero]; rfl) (by kernel_rfl) (by kernel_rfl) (by kernel_rfl) (by exact fun _ _ _ h => h) (Or.inl ⟨by rfl, ?_⟩) hHeld ?_
      rotate_left
      · intro w hSw
        try dsimp only at hSw
        obtain ⟨s0, s1⟩ := hSw
        go_simp
        all_goals with_reducible rfl
      try simp only [Act.put, List.setIfInBounds_toArray, List.set_cons_zero, List.set_cons_succ]
      refine wpAnyH_take (i := 4) (v := ?_) (by simp only [List.getElem?_toArray, List.getElem?_cons_succ, List.getElem?_cons_zero]; rfl) (by kernel_rfl) (by kernel_rfl) (by kernel_rfl) (by exact fun _ _ _ h => h) (Or.inl ⟨by rfl, ?_⟩) hHeld ?_
      rotate_left
      · intro w hSw
        try dsimp only at hSw
        go_simp
        all_goals with_reducible rfl
      try simp only [Act.put, List.setIfInBounds_toArray, List.set_cons_zero, List.set_cons_succ]
      refine wpAnyH_take (i := 5) (v := ?_) (by simp only [List.getElem?_toArray, List.getElem?_cons_succ, List.getElem?_cons_zero]; rfl) (by kernel_rfl) (by kernel_rfl) (by kernel_rfl) (by exact fun _ _ _ h => h) (Or.inl ⟨by rfl, ?_⟩) hHeld ?_
      rotate_left
      · intro w hSw
        try dsimp only at hSw
        go_simp
        all_goals with_reducible rfl
      try simp only [Act.put, List.setIfInBounds_toArray, List.set_cons_zero, List.set_cons_succ]
      refine wpAnyH_take (i := 6) (v := ?_) (by simp only [List.getElem?_toArray, List.getElem?_cons_succ, List.getElem?_cons_zero]; rfl) (by kernel_rfl) (by kernel_rfl) (by kernel_rfl) (by exact fun _ _ _ h => h) (Or.inl ⟨by rfl, ?_⟩) hHeld ?_
      rotate_left
      · intro w hSw
        try dsimp only at hSw
        obtain ⟨s0, s1⟩ := hSw
        go_simp
        all_goals with_reducible rfl
      try simp only [Act.put, List.setIfInBounds_toArray, List.set_cons_zero, List.set_cons_succ]
      refine wpAnyH_ready (rs := [7]) (by kernel_rfl) (by simp) ?_
      refine AllReadyH.cons (by simp only [List.getElem?_toArray, List.getElem?_cons_succ, List.getElem?_cons_zero]; rfl) (fun K hK => ?_) AllReadyH.nil
      go_simp
      refine (cw4 _ (Kept.drew [] W)).mono ?_
      rintro e w4 ⟨rfl, fp4, hD4, hk4, hn4⟩
      obtain ⟨t4, hP4⟩ := (hP1.next (Kept.drew [] W)).dev hD4 hk4 hn4
      have hd4 := hdb.drew.dev hk4 hn4
      have y4 := pr_cells hP4.head
      have z4 := hd4.cells
      go_wp2_with fail
      refine hK.out _ _ ?_ (fun hHeld2 => ?_)
      · exact ⟨y4.2.2.1, z4.2.2.2⟩
      clear hK K hHeld
      have hHeld := hHeld2
      clear hHeld2
      try simp only [Act.put, List.setIfInBounds_toArray, List.set_cons_zero, List.set_cons_succ]
      refine wpAnyH_calm (by kernel_rfl) ?_ _
      clear hHeld cw4
      have cv5 := fun W' (hk : Kept [] w4 W') => rv_fail (hP4.rv.new_kept hk) (n9 : Int) x.keepA x.keepn x.keepc x.keep (ko _ (hP4.kept.trans hk)) hx.keepL (keep_out hx hP4.kept lg).2 hx.keepI
      go_wp2_with fail
      refine wp_region_calm (S := (fun W => W.cell? ⟨p, 4, none⟩ = some (.pointer (some ⟨r, 0, none⟩)) ∧ W.cell? ⟨DB, 3, none⟩ = some (.slice x.keepA x.keepn x.keepc))) (by kernel_rfl) (show _ ∧ _ from ⟨y4.2.2.2.2.1, z4.2.2.2⟩) (fun hHeld => ?_)
      refine wpAnyH_take (i := 0) (v := ?_) (by simp only [List.getElem?_toArray, List.getElem?_cons_zero]; rfl) (by kernel_rfl) (by kernel_rfl) (by kernel_rfl) (by exact fun _ _ _ h => h) (Or.inl ⟨by rfl, ?_⟩) hHeld ?_
      rotate_left
      · intro w hSw
        try dsimp only at hSw
        go_simp
        all_goals with_reducible rfl
      try simp only [Act.put, List.setIfInBounds_toArray, List.set_cons_zero, List.set_cons_succ]
      refine wpAnyH_take (i := 1) (v := ?_) (by simp only [List.getElem?_toArray, List.getElem?_cons_succ, List.getElem?_cons_zero]; rfl) (by kernel_rfl) (by kernel_rfl) (by kernel_rfl) (by exact fun _ _ _ h => h) (Or.inl ⟨by rfl, ?_⟩) hHeld ?_
      rotate_left
      · intro w hSw
        try dsimp only at hSw
        go_simp
        all_goals with_reducible rfl
      try simp only [Act.put, List.setIfInBounds_toArray, List.set_cons_zero, List.set_cons_succ]
      refine wpAnyH_take (i := 2) (v := ?_) (by simp only [List.getElem?_toArray, List.getElem?_cons_succ, List.getElem?_cons_zero]; rfl) (by kernel_rfl) (by kernel_rfl) (by kernel_rfl) (by exact fun _ _ _ h => h) (Or.inl ⟨by rfl, ?_⟩) hHeld ?_
      rotate_left
      · intro w hSw
        try dsimp only at hSw
        go_simp
        all_goals with_reducible rfl
      try simp only [Act.put, List.setIfInBounds_toArray, List.set_cons_zero, List.set_cons_succ]
      refine wpAnyH_take (i := 3) (v := ?_) (by simp only [List.getElem?_toArray, List.getElem?_cons_succ, List.getElem?_cons_zero]; rfl) (by kernel_rfl) (by kernel_rfl) (by kernel_rfl) (by exact fun _ _ _ h => h) (Or.inl ⟨by rfl, ?_⟩) hHeld ?_
      rotate_left
      · intro w hSw
        try dsimp only at hSw
        obtain ⟨s0, s1⟩ := hSw
        go_simp
        all_goals with_reducible rfl
      try simp only [Act.put, List.setIfInBounds_toArray, List.set_cons_zero, List.set_cons_succ]
      refine wpAnyH_take (i := 4) (v := ?_) (by simp only [List.getElem?_toArray, List.getElem?_cons_succ, List.getElem?_cons_zero]; rfl) (by kernel_rfl) (by kernel_rfl) (by kernel_rfl) (by exact fun _ _ _ h => h) (Or.inl ⟨by rfl, ?_⟩) hHeld ?_
      rotate_left
      · intro w hSw
        try dsimp only at hSw
        go_simp
        all_goals with_reducible rfl
      try simp only [Act.put, List.setIfInBounds_toArray, List.set_cons_zero, List.set_cons_succ]
      refine wpAnyH_take (i := 5) (v := ?_) (by simp only [List.getElem?_toArray, List.getElem?_cons_succ, List.getElem?_cons_zero]; rfl) (by kernel_rfl) (by kernel_rfl) (by kernel_rfl) (by exact fun _ _ _ h => h) (Or.inl ⟨by rfl, ?_⟩) hHeld ?_
      rotate_left
      · intro w hSw
        try dsimp only at hSw
        go_simp
        all_goals with_reducible rfl
      try simp only [Act.put, List.setIfInBounds_toArray, List.set_cons_zero, List.set_cons_succ]
      refine wpAnyH_take (i := 6) (v := ?_) (by simp only [List.getElem?_toArray, List.getElem?_cons_succ, List.getElem?_cons_zero]; rfl) (by kernel_rfl) (by kernel_rfl) (by kernel_rfl) (by exact fun _ _ _ h => h) (Or.inl ⟨by rfl, ?_⟩) hHeld ?_
      rotate_left
      · intro w hSw
        try dsimp only at hSw
        obtain ⟨s0, s1⟩ := hSw
        go_simp
        all_goals with_reducible rfl
      try simp only [Act.put, List.setIfInBounds_toArray, List.set_cons_zero, List.set_cons_succ]
      refine wpAnyH_ready (rs := [7]) (by kernel_rfl) (by simp) ?_
      refine AllReadyH.cons (by simp only [List.getElem?_toArray, List.getElem?_cons_succ, List.getElem?_cons_zero]; rfl) (fun K hK => ?_) AllReadyH.nil
      go_simp
      refine (cv5 _ (Kept.drew [] w4)).mono ?_
      rintro e w5 ⟨rfl, gp5, hR5, hk5, hn5⟩
      obtain ⟨t5, hP5⟩ := (hP4.next (Kept.drew [] w4)).ref hR5 hk5 hn5
      have hd5 := hd4.drew.ref hk5 hn5
      have y5 := pr_cells hP5.head
      have z5 := hd5.cells
      go_wp2_with fail
      refine hK.out _ _ ?_ (fun hHeld2 => ?_)
      · exact ⟨y5.2.2.2.2.1, z5.2.2.2⟩
      clear hK K hHeld
      have hHeld := hHeld2
      clear hHeld2
      try simp only [Act.put, List.setIfInBounds_toArray, List.set_cons_zero, List.set_cons_succ]
      refine wpAnyH_calm (by kernel_rfl) ?_ _
      clear hHeld cv5
      go_wp2_with fail
      go_end0
      exact ⟨rfl, sure, _, os, hX.both hP5 (dl3 _ _) (by rw [dw3]; push_cast; omega)⟩
  · as_aux_lemma =>
      have cw4 := fun W' (hk : Kept [] W W') => refuse_dv (hP1.dv.new_kept hk) x.num hx.num.1 hx.num.2
      go_wp2_with fail
      refine wp_region_calm (S := (fun W => W.cell? ⟨p, 2, none⟩ = some (.pointer (some ⟨a, 0, none⟩)) ∧ W.cell? ⟨DB, 1, none⟩ = some (.int .i64 x.num))) (by kernel_rfl) (show _ ∧ _ from ⟨c2, b1⟩) (fun hHeld => ?_)
      refine wpAnyH_take (i := 0) (v := ?_) (by simp only [List.getElem?_toArray, List.getElem?_cons_zero]; rfl) (by kernel_rfl) (by kernel_rfl) (by kernel_rfl) (by exact fun _ _ _ h => h) (Or.inl ⟨by rfl, ?_⟩) hHeld ?_
      rotate_left
      · intro w hSw
        try dsimp only at hSw
        go_simp
        all_goals with_reducible rfl
      try simp only [Act.put, List.setIfInBounds_toArray, List.set_cons_zero, List.set_cons_succ]
      refine wpAnyH_take (i := 1) (v := ?_) (by simp only [List.getElem?_toArray, List.getElem?_cons_succ, List.getElem?_cons_zero]; rfl) (by kernel_rfl) (by kernel_rfl) (by kernel_rfl) (by exact fun _ _ _ h => h) (Or.inl ⟨by rfl, ?_⟩) hHeld ?_
      rotate_left
      · intro w hSw
        try dsimp only at hSw
        go_simp
        all_goals with_reducible rfl
      try simp only [Act.put, List.setIfInBounds_toArray, List.set_cons_zero, List.set_cons_succ]
      refine wpAnyH_take (i := 2) (v := ?_) (by simp only [List.getElem?_toArray, List.getElem?_cons_succ, List.getElem?_cons_zero]; rfl) (by kernel_rfl) (by kernel_rfl) (by kernel_rfl) (by exact fun _ _ _ h => h) (Or.inl ⟨by rfl, ?_⟩) hHeld ?_
      rotate_left
      · intro w hSw
        try dsimp only at hSw
        go_simp
        all_goals with_reducible rfl
      try simp only [Act.put, List.setIfInBounds_toArray, List.set_cons_zero, List.set_cons_succ]
      refine wpAnyH_take (i := 3) (v := ?_) (by simp only [List.getElem?_toArray, List.getElem?_cons_succ, List.getElem?_cons_zero]; rfl) (by kernel_rfl) (by kernel_rfl) (by kernel_rfl) (by exact fun _ _ _ h => h) (Or.inl ⟨by rfl, ?_⟩) hHeld ?_
      rotate_left
      · intro w hSw
        try dsimp only at hSw
        obtain ⟨s0, s1⟩ := hSw
        go_simp
        all_goals with_reducible rfl
      try simp only [Act.put, List.setIfInBounds_toArray, List.set_cons_zero, List.set_cons_succ]
      refine wpAnyH_take (i := 4) (v := ?_) (by simp only [List.getElem?_toArray, List.getElem?_cons_succ, List.getElem?_cons_zero]; rfl) (by kernel_rfl) (by kernel_rfl) (by kernel_rfl) (by exact fun _ _ _ h => h) (Or.inl ⟨by rfl, ?_⟩) hHeld ?_
      rotate_left
      · intro w hSw
        try dsimp only at hSw
        go_simp
        all_goals with_reducible rfl
      try simp only [Act.put, List.setIfInBounds_toArray, List.set_cons_zero, List.set_cons_succ]
      refine wpAnyH_take (i := 5) (v := ?_) (by simp only [List.getElem?_toArray, List.getElem?_cons_succ, List.getElem?_cons_zero]; rfl) (by kernel_rfl) (by kernel_rfl) (by kernel_rfl) (by exact fun _ _ _ h => h) (Or.inl ⟨by rfl, ?_⟩) hHeld ?_
      rotate_left
      · intro w hSw
        try dsimp only at hSw
        obtain ⟨s0, s1⟩ := hSw
        go_simp
        all_goals with_reducible rfl
      try simp only [Act.put, List.setIfInBounds_toArray, List.set_cons_zero, List.set_cons_succ]
      refine wpAnyH_ready (rs := [6]) (by kernel_rfl) (by simp) ?_
      refine AllReadyH.cons (by simp only [List.getElem?_toArray, List.getElem?_cons_succ, List.getElem?_cons_zero]; rfl) (fun K hK => ?_) AllReadyH.nil
      go_simp
      refine (cw4 _ (Kept.drew [] W)).mono ?_
      rintro e w4 ⟨rfl, fp4, hD4, hk4, hn4⟩
      obtain ⟨t4, hP4⟩ := (hP1.next (Kept.drew [] W)).dev hD4 hk4 hn4
      have hd4 := hdb.drew.dev hk4 hn4
      have y4 := pr_cells hP4.head
      have z4 := hd4.cells
      go_wp2_with fail
      refine hK.out _ _ ?_ (fun hHeld2 => ?_)
      · exact ⟨y4.2.2.1, z4.2.1⟩
      clear hK K hHeld
      have hHeld := hHeld2
      clear hHeld2
      try simp only [Act.put, List.setIfInBounds_toArray, List.set_cons_zero, List.set_cons_succ]
      refine wpAnyH_calm (by kernel_rfl) ?_ _
      clear hHeld cw4
      have cv5 := fun W' (hk : Kept [] w4 W') => rv_refuse (hP4.rv.new_kept hk) x.num
      go_wp2_with fail
      refine wp_region_calm (S := (fun W => W.cell? ⟨p, 4, none⟩ = some (.pointer (some ⟨r, 0, none⟩)) ∧ W.cell? ⟨DB, 1, none⟩ = some (.int .i64 x.num))) (by kernel_rfl) (show _ ∧ _ from ⟨y4.2.2.2.2.1, z4.2.1⟩) (fun hHeld => ?_)
      refine wpAnyH_take (i := 0) (v := ?_) (by simp only [List.getElem?_toArray, List.getElem?_cons_zero]; rfl) (by kernel_rfl) (by kernel_rfl) (by kernel_rfl) (by exact fun _ _ _ h => h) (Or.inl ⟨by rfl, ?_⟩) hHeld ?_
      rotate_left
      · intro w hSw
        try dsimp only at hSw
        go_simp
        all_goals with_reducible rfl
      try simp only [Act.put, List.setIfInBounds_toArray, List.set_cons_zero, List.set_cons_succ]
      refine wpAnyH_take (i := 1) (v := ?_) (by simp only [List.getElem?_toArray, List.getElem?_cons_succ, List.getElem?_cons_zero]; rfl) (by kernel_rfl) (by kernel_rfl) (by kernel_rfl) (by exact fun _ _ _ h => h) (Or.inl ⟨by rfl, ?_⟩) hHeld ?_
      rotate_left
      · intro w hSw
        try dsimp only at hSw
        go_simp
        all_goals with_reducible rfl
      try simp only [Act.put, List.setIfInBounds_toArray, List.set_cons_zero, List.set_cons_succ]
      refine wpAnyH_take (i := 2) (v := ?_) (by simp only [List.getElem?_toArray, List.getElem?_cons_succ, List.getElem?_cons_zero]; rfl) (by kernel_rfl) (by kernel_rfl) (by kernel_rfl) (by exact fun _ _ _ h => h) (Or.inl ⟨by rfl, ?_⟩) hHeld ?_
      rotate_left
      · intro w hSw
        try dsimp only at hSw
        go_simp
        all_goals with_reducible rfl
      try simp only [Act.put, List.setIfInBounds_toArray, List.set_cons_zero, List.set_cons_succ]
      refine wpAnyH_take (i := 3) (v := ?_) (by simp only [List.getElem?_toArray, List.getElem?_cons_succ, List.getElem?_cons_zero]; rfl) (by kernel_rfl) (by kernel_rfl) (by kernel_rfl) (by exact fun _ _ _ h => h) (Or.inl ⟨by rfl, ?_⟩) hHeld ?_
      rotate_left
      · intro w hSw
        try dsimp only at hSw
        obtain ⟨s0, s1⟩ := hSw
        go_simp
        all_goals with_reducible rfl
      try simp only [Act.put, List.setIfInBounds_toArray, List.set_cons_zero, List.set_cons_succ]
      refine wpAnyH_take (i := 4) (v := ?_) (by simp only [List.getElem?_toArray, List.getElem?_cons_succ, List.getElem?_cons_zero]; rfl) (by kernel_rfl) (by kernel_rfl) (by kernel_rfl) (by exact fun _ _ _ h => h) (Or.inl ⟨by rfl, ?_⟩) hHeld ?_
      rotate_left
      · intro w hSw
        try dsimp only at hSw
        go_simp
        all_goals with_reducible rfl
      try simp only [Act.put, List.setIfInBounds_toArray, List.set_cons_zero, List.set_cons_succ]
      refine wpAnyH_take (i := 5) (v := ?_) (by simp only [List.getElem?_toArray, List.getElem?_cons_succ, List.getElem?_cons_zero]; rfl) (by kernel_rfl) (by kernel_rfl) (by kernel_rfl) (by exact fun _ _ _ h => h) (Or.inl ⟨by rfl, ?_⟩) hHeld ?_
      rotate_left
      · intro w hSw
        try dsimp only at hSw
        obtain ⟨s0, s1⟩ := hSw
        go_simp
        all_goals with_reducible rfl
      try simp only [Act.put, List.setIfInBounds_toArray, List.set_cons_zero, List.set_cons_succ]
      refine wpAnyH_ready (rs := [6]) (by kernel_rfl) (by simp) ?_
      refine AllReadyH.cons (by simp only [List.getElem?_toArray, List.getElem?_cons_succ, List.getElem?_cons_zero]; rfl) (fun K hK => ?_) AllReadyH.nil
      go_simp
      refine (cv5 _ (Kept.drew [] w4)).mono ?_
      rintro e w5 ⟨rfl, gp5, hR5, hk5, hn5⟩
      obtain ⟨t5, hP5⟩ := (hP4.next (Kept.drew [] w4)).ref hR5 hk5 hn5
      have hd5 := hd4.drew.ref hk5 hn5
      have y5 := pr_cells hP5.head
      have z5 := hd5.cells
      go_wp2_with fail
      refine hK.out _ _ ?_ (fun hHeld2 => ?_)
      · exact ⟨y5.2.2.2.2.1, z5.2.1⟩
      clear hK K hHeld
      have hHeld := hHeld2
      clear hHeld2
      try simp only [Act.put, List.setIfInBounds_toArray, List.set_cons_zero, List.set_cons_succ]
      refine wpAnyH_calm (by kernel_rfl) ?_ _
      clear hHeld cv5
      go_wp2_with fail
      go_end0
      exact ⟨rfl, sure, _, os, hX.both hP5 (dl4 _) (by rw [dw4]; push_cast; omega)⟩
  · as_aux_lemma =>
      have co := pairTurn12_any hX hk x.num hx.num
      go_wp2_with fail
      refine co.mono ?_
      rintro e w4 h4
      obtain ⟨rfl, h5⟩ := h4
      go_wp2_with fail
      go_end0
      exact ⟨rfl, h5⟩
end Go.Proofs.Ytbnflbkaogpnbaa
