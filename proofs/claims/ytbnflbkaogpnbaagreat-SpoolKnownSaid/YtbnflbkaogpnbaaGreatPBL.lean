/- Texts in one: KN KO A3 A5. -/
import Derived.Test.YtbnflbkaogpnbaaGreatPBK
import Derived.Test.YtbnflbkaogpnbaaGreatPBJ
import Derived.Test.YtbnflbkaogpnbaaGreatPAN
import Derived.Test.YtbnflbkaogpnbaaGreatPAE
import Derived.OrdersHeld
namespace Go.Proofs.YtbnflbkaogpnbaaGreat
set_option linter.unusedVariables false
open Go.RowKit
def SzRel (w : World) (p a r : Nat) (f m : Int) (i : Value) (wr : World) : Prop :=
 ∃ (k : Nat) (d : Dev) (os : Option Sp), i = .int .i64 k ∧ k ≤ 40 ∧ PrZ w wr p a r f m d os k
theorem PrZ.fine {w0 w : World} {p a r : Nat} {f m : Int} {d : Dev} {os : Option Sp} {k : Nat} (h : PrZ w0 w p a r f m d os k) : PrZ w0 (w.setCell ⟨p, 6, none⟩ (.bool true)) p a r f m d os k := by
 obtain ⟨vs, vm, fp, gp, S, G, t, hP⟩ := h.ex
 obtain ⟨t', hP'⟩ := hP.fine
 exact ⟨⟨_, _, _, _, _, _, _, hP'⟩, h.wf, h.works, h.len, h.fI, h.mI⟩
theorem PrZ.fineCell {w0 w : World} {p a r : Nat} {f m : Int} {d : Dev} {os : Option Sp} {k : Nat} (h : PrZ w0 w p a r f m d os k) : w.cell? ⟨p, 6, none⟩ = some (.bool true) ∧ (∀ i, w.frozen? ⟨p, i, none⟩ = false) ∧ Kept [] w0 w := by
 obtain ⟨vs, vm, fp, gp, S, G, t, hP⟩ := h.ex
 obtain ⟨c0, c1, c2, c3, c4, c5, c6, cf⟩ := pr13_cells hP.head
 exact ⟨c6, cf, hP.kept⟩
set_option maxHeartbeats 4000000 in
set_option maxRecDepth 100000 in
theorem spoolDoes_any (w : World) (f m : Int) (hf : I64 f) (hm : I64 m) (A : Option Addr) (n c : Nat) (l : List D13) (hl : D13s w A n c l) (hs : ∀ x ∈ l, x.Fits) :
  Calls Tryz.prog 15 #[.agg #[.int .i64 f, .int .i64 m], .slice A n c] w (TruePost w) := by
 have hln := hl.le; have hlm := hl.max
 unfold maxLen at hlm
 go_enter Tryz.func15, Tryz.ntmps15
 go_wp2_with fail
 refine (new_any 24 _ (by omega) (by omega)).mono ?_
 rintro e w1 ⟨a, f1, rfl, hD1, hA1, hN1⟩
 go_wp2_with fail
 refine (refNew_any 24 _ (by omega) (by omega)).mono ?_
 rintro e w2 ⟨r, B, cap, l2, g1, rfl, hR2, hA2, hN2⟩
 have hkb := Kept.alloc [] w (.cells #[.int .i64 f, .int .i64 m] 52)
 have hbx : w2.heap[w.heap.size]? = some (.cells #[.int .i64 f, .int .i64 m] 52 (0, 0)) := ((hA1.trans hA2).block _ (by simp) (by simp)).trans (heap_alloc_new _ _)
 have x0 : w2.cell? ⟨w.heap.size, 0, none⟩ = some (.int .i64 f) := by rw [blk_cell hbx]; rfl
 have x1 : w2.cell? ⟨w.heap.size, 1, none⟩ = some (.int .i64 m) := by rw [blk_cell hbx]; rfl
 have hz1 := hA1.size; have hz2 := hA2.size
 have kp := Kept.alloc [] w2 (.cells (prCells13 f m a r (.pointer none) (.pointer none) true) 72)
 have hbp := heap_alloc_new w2 (.cells (prCells13 f m a r (.pointer none) (.pointer none) true) 72)
 have hRv : Rv w2 r g1 (Dev.new 24) := ⟨B, cap, l2, _, hR2, rs_new 24⟩
 have hk02 : Kept [] w w2 := (hkb.trans hA1).trans hA2
 have hzb := hkb.size
 simp at hzb
 have hP0 : Pr13 w (w2.alloc (.cells (prCells13 f m a r (.pointer none) (.pointer none) true) 72)) w2.heap.size a r f m (Dev.new 24) (Dev.new 24) none none (.pointer none) (.pointer none) f1 g1 [] [] (fun j => if j = w2.heap.size then 0 else if j ∈ f1 then 1 else 2) :=
  ⟨hbp, (hD1.new_kept hA2).new_kept kp, hRv.new_kept kp, rfl, rfl, if_pos rfl, fun j hj => by
   have h1 := hD1.lt j hj
   exact (if_neg (by omega)).trans (if_pos hj), fun j hj => by
   have h1 := hRv.lt j hj
   have h2 := hN2 j hj
   exact (if_neg (by omega)).trans (if_neg (fun hm => by have := hD1.lt j hm; omega)), by simp, by simp, fun j hj => by
   rcases hj with rfl | hj | hj | hj | hj
   ·have := hk02.size; omega
   ·have := hN1 j hj
    simp at this
    omega
   ·have := hN2 j hj
    have := hA1.size
    simp at this
    omega
   ·exact absurd hj (by simp)
   ·exact absurd hj (by simp), by simp, by simp, hk02.trans kp⟩
 have hX0 : PrZ w (w2.alloc (.cells (prCells13 f m a r (.pointer none) (.pointer none) true) 72)) w2.heap.size a r f m (Dev.new 24) none 0 :=
  ⟨⟨_, _, _, _, _, _, _, hP0⟩, (by simp), by show (0 : Int) ≤ _; omega, by simp [Dev.new], hf, hm⟩
 have co := pairOpens13_any hX0
 obtain ⟨W3, hW3⟩ : ∃ W3, w2.alloc (.cells (prCells13 f m a r (.pointer none) (.pointer none) true) 72) = W3 := ⟨_, rfl⟩
 rw [hW3] at co hX0
 unfold prCells13 at hW3
 clear hP0 hRv hR2 hbp kp hD1 hN1 hN2 hbx
 go_wp2_with fail
 try rw [hW3]
 clear hW3
 generalize w2.heap.size = p at *
 refine co.mono ?_
 rintro e w4 ⟨rfl, os4, hX4⟩
 clear co hX0
 have k04 := hX4.fineCell.2.2
 go_wp2_with fail
 go_loopw [10] (fun i wr => SzRel w p a r f m i wr) (fun i _ => 40 - (intOf i).toNat)
 case atStart => exact ⟨0, _, _, rfl, by omega, hX4⟩
 case round =>
  obtain ⟨k, d, os, rfl, hk, hX⟩ := hrel
  obtain ⟨x7, xf, hk0⟩ := hX.fineCell
  clear hX4
  by_cases hlt : k < n ∧ k < 40
  ·have i1 : (k : Int) < (n : Int) := by omega
   have i2 : (k : Int) < 40 := by omega
   obtain ⟨b, o, x, hA, hbl, hpl, hok0, hc0, hc1, hc2, hc3, hc4⟩ := hl.at_ hlt.1
   have e : ∀ j, wr.cell? ⟨b, j, none⟩ = w.cell? ⟨b, j, none⟩ := fun j => hk0.cell (p := ⟨b, j, none⟩) hbl (by simp)
   rw [← e] at hc0 hc1 hc2 hc3 hc4
   subst hA
   unfold Part.val at hc2
   have cs := pairStep13_any hX (by omega) x hok0 (hs x (List.mem_of_getElem? hpl))
   unfold D13.val D13.cells at cs
   clear e hpl
   go_wp2_with fail
   refine cs.mono ?_
   rintro e w5 ⟨rfl, d5, os5, hX5⟩
   obtain ⟨y7, yf, -⟩ := hX5.fineCell
   have ct := pairTells13_any hX5
   clear cs
   go_wp2_with fail
   refine ct.mono ?_
   rintro e w6 ⟨rfl, os6, hX6⟩
   obtain ⟨z7, zf, -⟩ := hX6.fineCell
   have hX7 := hX6.fine
   clear ct
   go_wp2_with fail
   go_roundw
   case rel => exact ⟨k + 1, _, _, by go_num, by omega, hX7⟩
   case measure => simp [intOf]; omega
  ·have hcase : ¬ (k : Int) < (n : Int) ∨ ((k : Int) < (n : Int) ∧ ¬ (k : Int) < 40) := by omega
   rcases hcase with i1 | ⟨i1, i2⟩
   all_goals
    go_wp2_with fail
    refine (awake13_any _).mono ?_
    rintro e w5 ⟨rfl, hk5⟩
    go_wp2_with fail
    go_ret
    exact ⟨rfl, hk0.trans hk5⟩
end Go.Proofs.YtbnflbkaogpnbaaGreat
namespace Go.Proofs.YtbnflbkaogpnbaaGreat
set_option linter.unusedVariables false
open Go.RowKit
theorem spoolWrong_none {w : World} {p : Option Addr} (h : NoStrip w p) : Calls Tryz.prog 17 #[.pointer p] w fun e w' => e = .returned (.int .i64 1) ∧ w = w' := by
 rcases h with rfl | ⟨a, rfl, hl, hc⟩
 ·go_enter Tryz.func17, Tryz.ntmps17
  go_wp2_with fail
  go_ret
  exact ⟨rfl, rfl⟩
 ·clear hl
  go_enter Tryz.func17, Tryz.ntmps17
  go_wp2_with fail
  go_ret
  exact ⟨rfl, rfl⟩
theorem spoolUp_none {w : World} {p : Option Addr} (h : NoStrip w p) : Calls Tryz.prog 23 #[.pointer p] w fun e w' => e = .returned (.bool false) ∧ w = w' := by
 have cw := spoolWrong_none h
 go_enter Tryz.func23, Tryz.ntmps23
 go_wp2_with fail
 refine cw.mono ?_
 rintro e w1 ⟨rfl, rfl⟩
 go_wp2_with fail
 go_ret
 exact ⟨rfl, rfl⟩
theorem spoolBroken_none {w : World} {p : Option Addr} (h : NoStrip w p) : Calls Tryz.prog 10 #[.pointer p] w fun e w' => e = .returned (.bool false) ∧ w = w' := by
 have cw := spoolWrong_none h
 go_enter Tryz.func10, Tryz.ntmps10
 go_wp2_with fail
 refine cw.mono ?_
 rintro e w1 ⟨rfl, rfl⟩
 go_wp2_with fail
 go_ret
 exact ⟨rfl, rfl⟩
theorem spoolLen_none {w : World} {p : Option Addr} (h : NoStrip w p) : Calls Tryz.prog 7 #[.pointer p] w fun e w' => e = .returned (.int .i64 0) ∧ w = w' := by
 have cw := spoolUp_none h
 go_enter Tryz.func7, Tryz.ntmps7
 go_wp2_with fail
 refine cw.mono ?_
 rintro e w1 ⟨rfl, rfl⟩
 go_wp2_with fail
 go_ret
 exact ⟨rfl, rfl⟩
theorem spoolLeft_none {w : World} {p : Option Addr} (h : NoStrip w p) : Calls Tryz.prog 8 #[.pointer p] w fun e w' => e = .returned (.int .i64 0) ∧ w = w' := by
 have cw := spoolUp_none h
 go_enter Tryz.func8, Tryz.ntmps8
 go_wp2_with fail
 refine cw.mono ?_
 rintro e w1 ⟨rfl, rfl⟩
 go_wp2_with fail
 go_ret
 exact ⟨rfl, rfl⟩
theorem spoolHalf_none {w : World} {p : Option Addr} (h : NoStrip w p) : Calls Tryz.prog 9 #[.pointer p] w fun e w' => e = .returned (.int .i64 0) ∧ w = w' := by
 have cw := spoolUp_none h
 go_enter Tryz.func9, Tryz.ntmps9
 go_wp2_with fail
 refine cw.mono ?_
 rintro e w1 ⟨rfl, rfl⟩
 go_wp2_with fail
 go_ret
 exact ⟨rfl, rfl⟩
theorem spoolAppend_none {w : World} {p : Option Addr} (h : NoStrip w p) : Calls Tryz.prog 4 #[.pointer p, .slice none 0 0] w fun e w' => e = .returned (.int .i64 1) ∧ w = w' := by
 have cw := spoolWrong_none h
 go_enter Tryz.func4, Tryz.ntmps4
 go_wp2_with fail
 refine cw.mono ?_
 rintro e w1 ⟨rfl, rfl⟩
 go_wp2_with fail
 go_ret
 exact ⟨rfl, rfl⟩
theorem spoolFlush_none {w : World} {p : Option Addr} (h : NoStrip w p) : Calls Tryz.prog 5 #[.pointer p] w fun e w' => e = .returned (.int .i64 1) ∧ w = w' := by
 have cw := spoolWrong_none h
 go_enter Tryz.func5, Tryz.ntmps5
 go_wp2_with fail
 refine cw.mono ?_
 rintro e w1 ⟨rfl, rfl⟩
 go_wp2_with fail
 go_ret
 exact ⟨rfl, rfl⟩
theorem spoolReplace_none {w : World} {p : Option Addr} (h : NoStrip w p) : Calls Tryz.prog 6 #[.pointer p, .slice none 0 0] w fun e w' => e = .returned (.int .i64 1) ∧ w = w' := by
 have cw := spoolWrong_none h
 go_enter Tryz.func6, Tryz.ntmps6
 go_wp2_with fail
 refine cw.mono ?_
 rintro e w1 ⟨rfl, rfl⟩
 go_wp2_with fail
 go_ret
 exact ⟨rfl, rfl⟩
theorem spoolOpen_none {w : World} {p : Option Addr} (h : NoDev w p) : Calls Tryz.prog 13 #[.pointer p, .int .i64 0, .int .i64 8] w (OpNone w) := by
 have cr := read_none h 0
 go_enter Tryz.func13, Tryz.ntmps13
 go_wp2_with fail
 refine cr.mono ?_
 rintro e w1 ⟨rfl, rfl⟩
 clear cr
 go_wp2_with fail
 go_ret3
 exact ⟨rfl, Kept.refl _ _⟩
end Go.Proofs.YtbnflbkaogpnbaaGreat
namespace Go.Proofs.YtbnflbkaogpnbaaGreat
set_option linter.unusedVariables false
open Go.RowKit
theorem count_set {l : List Bool} : ∀ {i : Nat}, l[i]? = some false → (l.set i true).count false + 1 = l.count false := by
 induction l with
 | nil => intro i h; simp at h
 | cons b l ih =>
  intro i h
  cases i with
  | zero =>
   simp at h
   subst h
   simp
  | succ i =>
   have := ih (i := i) (by simpa using h)
   simp only [List.set_cons_succ, List.count_cons]
   omega
/-- w' is w but for new blocks and marks; what w0 had is untouched. -/
structure Soft (w0 w w' : World) : Prop where
 os : w'.os = w.os
 tape : w'.tape = w.tape
 output : w'.output = w.output
 size : w.heap.size ≤ w'.heap.size
 old : ∀ k : Nat, k < w0.heap.size → w'.heap[k]? = w.heap[k]?
 cells : ∀ (k : Nat) (C : Array Value) (t : TypeId) (fz : Nat × Nat), w.heap[k]? = some (.cells C t fz) → ∃ fz' : Nat × Nat, w'.heap[k]? = some (.cells C t fz')
 cell : ∀ p v, w.cell? p = some v → w'.cell? p = some v
theorem Soft.refl (w0 w : World) : Soft w0 w w := ⟨rfl, rfl, rfl, Nat.le_refl _, fun _ _ => rfl, fun k C t fz h => ⟨fz, h⟩, fun _ _ h => h⟩
theorem Soft.trans {w0 a b c : World} (h : Soft w0 a b) (k : Soft w0 b c) : Soft w0 a c :=
 ⟨k.os.trans h.os, k.tape.trans h.tape, k.output.trans h.output, Nat.le_trans h.size k.size, fun i hi => (k.old i hi).trans (h.old i hi), fun i C t fz hi => by
  obtain ⟨fz', h1⟩ := h.cells i C t fz hi
  exact k.cells i C t fz' h1, fun p v hp => k.cell p v (h.cell p v hp)⟩
theorem Soft.of_kept {w0 w w' : World} (h : Kept [] w w') (hz : w0.heap.size ≤ w.heap.size) : Soft w0 w w' :=
 ⟨h.os, h.tape, h.output, h.size, fun k hk => h.block k (by omega) (by simp), fun k C t fz hk => ⟨fz, (h.block k (World.lt_of_heap hk) (by simp)).trans hk⟩, fun p v hp => by
  obtain ⟨b, o, mk⟩ := p
  have hl : b < w.heap.size := by
   rcases Nat.lt_or_ge b w.heap.size with h' | h'
   ·exact h'
   ·simp [World.cell?, Array.getElem?_eq_none h'] at hp
  rw [← hp]
  exact World.cell?_of_block (h.block b hl (by simp))⟩
theorem Soft.kept {w0 w : World} (h : Soft w0 w0 w) : Kept [] w0 w := ⟨h.os, h.tape, h.output, h.size, fun k hk _ => h.old k hk⟩
section
variable {P : Program} {md : Region.Mode} {ops : Array Oper} {Q : Exit → Act → World → Prop}
theorem ready_getD {listed : Array Bool} {i : Nat} (h : listed.getD i true = false) : listed.toList[i]? = some false := by
 rw [Array.getD_eq_getD_getElem?] at h
 rw [Array.getElem?_toList]
 cases hx : listed[i]? with
 | none => rw [hx] at h; cases h
 | some b => rw [hx] at h; simp at h; rw [h]
/-- Where nothing is ready all has come up: no operation waits for a later one. -/
theorem ready_nil_all {listed : Array Bool} (hord : ∀ (i : Nat) (o : Oper), ops[i]? = some o → ∀ e ∈ o.after, e.on < i) (hs : listed.size = ops.size) (hr : Region.ready md ops listed = []) : ∀ i, i < ops.size → listed.getD i false = true := by
 intro i
 induction i using Nat.strongRecOn with
 | _ i ih =>
  intro hi
  by_cases hc : listed.getD i false = true
  ·exact hc
  ·exfalso
   have h1 : listed.getD i true = false := by
    rw [Array.getD_eq_getD_getElem?] at hc ⊢
    rw [Array.getElem?_eq_getElem (by omega)] at hc ⊢
    simpa using hc
   have ho : ops[i]? = some ops[i] := Array.getElem?_eq_getElem hi
   have hm : i ∈ Region.ready md ops listed := mem_ready.2 ⟨h1, _, ho, fun e he _ => ih e.on (hord i _ ho e he) (by have := hord i _ ho e he; omega)⟩
   rw [hr] at hm
   cases hm
theorem wpAnyH_inv {S : World → Prop} (J : Array Bool → Act → World → Prop) (hdone : ∀ listed a w, Region.ready md ops listed = [] → J listed a w → Q .normal a w)
  (hstep : ∀ listed a w i, i ∈ Region.ready md ops listed → J listed a w → wpOp P ops Q i (fun a' w' => S w' ∧ J (listed.setIfInBounds i true) a' w') a w) :
  ∀ (fuel : Nat) (listed : Array Bool) (a : Act) (w : World), J listed a w → listed.toList.count false ≤ fuel → wpAnyH P md ops Q S fuel listed a w
 | 0, listed, a, w, h, hc => by
  have hr : Region.ready md ops listed = [] := by
   apply List.eq_nil_iff_forall_not_mem.2
   intro i hi
   have h1 := ready_getD (mem_ready.1 hi).1
   have h2 := List.count_pos_iff.2 (List.mem_of_getElem? h1)
   omega
  exact ⟨hr, hdone _ _ _ hr h⟩
 | fuel + 1, listed, a, w, h, hc => ⟨fun hr => hdone _ _ _ hr h, fun i hi => wpOp_mono (fun a' w' h' => ⟨h'.1, wpAnyH_inv J hdone hstep fuel _ a' w' h'.2 (by
   have h1 := count_set (ready_getD (mem_ready.1 hi).1)
   rw [Array.toList_setIfInBounds]
   omega)⟩) (hstep _ _ _ i hi h)⟩
/-- An act that differs from another one in some slots. -/
structure OffD (D : List Nat) (a0 a : Act) : Prop where
 defers : a.defers = a0.defers
 size : a.tmps.size = a0.tmps.size
 off : ∀ s, s ∉ D → a.tmps[s]? = a0.tmps[s]?
theorem OffD.refl (D : List Nat) (a : Act) : OffD D a a := ⟨rfl, rfl, fun _ _ => rfl⟩
theorem OffD.put {D : List Nat} {a0 a : Act} (h : OffD D a0 a) {d : Nat} (hd : d ∈ D) (v : Value) : OffD D a0 (a.put (some d) v) := by
 refine ⟨h.defers, by simp [Act.put, h.size], fun s hs => ?_⟩
 have : d ≠ s := fun e => hs (e ▸ hd)
 simp only [Act.put]
 rw [Array.getElem?_setIfInBounds_ne this]
 exact h.off s hs
theorem OffD.eval {D : List Nat} {a0 a : Act} (h : OffD D a0 a) {s : Nat} (hs : s ∉ D) : a.eval (.tmp s) = a0.eval (.tmp s) := by
 have := h.off s hs
 simp only [Act.eval, Array.getD_eq_getD_getElem?, this]
theorem eval_put {a : Act} {d s : Nat} {v : Value} (h : d ≠ s) : (a.put (some d) v).eval (.tmp s) = a.eval (.tmp s) := by
 simp only [Act.eval, Act.put, Array.getD_eq_getD_getElem?]
 rw [Array.getElem?_setIfInBounds_ne h]
theorem eval_put_self {a : Act} {d : Nat} {v : Value} (h : d < a.tmps.size) : (a.put (some d) v).eval (.tmp d) = v := by
 simp [Act.eval, Act.put, h]
/-- The same act, written out. -/
theorem OffD.puts {a : Act} : ∀ {D : List Nat} {a0 : Act}, OffD D a0 a → (∀ s ∈ D, s < a0.tmps.size) → a = D.foldl (fun b s => b.put (some s) (a.eval (.tmp s))) a0 := by
 intro D
 induction D with
 | nil =>
  intro a0 h _
  obtain ⟨t, df⟩ := a
  obtain ⟨t0, df0⟩ := a0
  have h1 := h.defers
  simp only at h1
  subst h1
  have h2 : t = t0 := Array.ext_getElem? (fun i => h.off i (by simp))
  rw [h2]
  rfl
 | cons s D ih =>
  intro a0 h hD
  rw [List.foldl_cons]
  refine ih ⟨h.defers, by simp [Act.put, h.size], fun k hk => ?_⟩ (fun k hk => by simp [Act.put]; exact hD k (List.mem_cons_of_mem _ hk))
  simp only [Act.put]
  by_cases e : s = k
  ·subst e
   have h0 := hD s List.mem_cons_self
   rw [Array.getElem?_setIfInBounds_self_of_lt h0]
   simp only [Act.eval, Array.getD_eq_getD_getElem?]
   rw [Array.getElem?_eq_getElem (by rw [h.size]; exact h0)]
   rfl
  ·rw [Array.getElem?_setIfInBounds_ne e]
   exact h.off k (by simp; exact ⟨fun e2 => e e2.symm, hk⟩)
/-- The law: each operation that is left yields what is said of it, whatever has come up beside what it waits for. -/
theorem wpAnyH_mem {S : World → Prop} (rem : List (Nat × Nat)) (Spec : Nat → Value → World → Prop) 
  (hord : ∀ (i : Nat) (o : Oper), ops[i]? = some o → ∀ e ∈ o.after, e.on < i) (hnd : (rem.map (·.2)).Nodup) (hni : (rem.map (·.1)).Nodup) {fuel : Nat} {listed0 : Array Bool} {a0 : Act} {w0 : World} (hst : ∀ k v w w', Spec k v w → Soft w0 w w' → Spec k v w')
  (hs : listed0.size = ops.size) (hl : ∀ i, i < ops.size → i ∉ rem.map (·.1) → listed0.getD i false = true) (hl2 : ∀ x ∈ rem, listed0.getD x.1 false = false) (hb : ∀ x ∈ rem, x.1 < ops.size) (hsz : ∀ x ∈ rem, x.2 < a0.tmps.size) (hc : listed0.toList.count false ≤ fuel)
  (hop : ∀ x ∈ rem, ∀ a w, OffD (rem.map (·.2)) a0 a → Soft w0 w0 w → (∀ y ∈ rem, (∃ o : Oper, ops[x.1]? = some o ∧ ∃ e ∈ o.after, Region.binds md e = true ∧ e.on = y.1) → Spec y.1 (a.eval (.tmp y.2)) w) →
   wpOp P ops Q x.1 (fun a' w' => ∃ v, a' = a.put (some x.2) v ∧ Spec x.1 v w' ∧ Soft w0 w w') a w)
  (hS : ∀ w, Soft w0 w0 w → S w) (hfin : ∀ a w, OffD (rem.map (·.2)) a0 a → Soft w0 w0 w → (∀ x ∈ rem, Spec x.1 (a.eval (.tmp x.2)) w) → Q .normal a w) :
  wpAnyH P md ops Q S fuel listed0 a0 w0 := by
 refine wpAnyH_inv (fun listed a w => listed.size = ops.size ∧ (∀ i, i < ops.size → i ∉ rem.map (·.1) → listed.getD i false = true) ∧ OffD (rem.map (·.2)) a0 a ∧ Soft w0 w0 w ∧ ∀ x ∈ rem, listed.getD x.1 false = true → Spec x.1 (a.eval (.tmp x.2)) w) ?_ ?_ fuel listed0 a0 w0 ⟨hs, hl, OffD.refl _ _, Soft.refl _ _, fun x hx h => by rw [hl2 x hx] at h; cases h⟩ hc
 ·rintro listed a w hr ⟨h1, h2, h3, h4, h5⟩
  have hall := ready_nil_all hord h1 hr
  refine hfin a w h3 h4 (fun x hx => h5 x hx ?_)
  exact hall _ (hb x hx)
 ·rintro listed a w i hi ⟨h1, h2, h3, h4, h5⟩
  obtain ⟨g1, o, g2, g3⟩ := mem_ready.1 hi
  have hil : i < ops.size := (Array.getElem?_eq_some_iff.1 g2).1
  have hir : i ∈ rem.map (·.1) := by
   by_cases hm : i ∈ rem.map (·.1)
   ·exact hm
   ·have h6 := h2 i hil hm
    rw [Array.getD_eq_getD_getElem?] at g1 h6
    rw [Array.getElem?_eq_getElem (by omega)] at g1 h6
    simp at g1 h6
    rw [g1] at h6
    cases h6
  obtain ⟨x, hx, rfl⟩ := List.mem_map.1 hir
  refine wpOp_mono ?_ (hop x hx a w h3 h4 (fun y hy ⟨o', ho', e, he, hb, hon⟩ => h5 y hy ?_))
  ·rintro a' w' ⟨v, rfl, hv, hk⟩
   have hxd : x.2 ∈ rem.map (·.2) := List.mem_map_of_mem hx
   refine ⟨hS _ (h4.trans hk), by simp [h1], fun j hj hm => ?_, h3.put hxd v, h4.trans hk, fun y hy hl' => ?_⟩
   ·have hne : x.1 ≠ j := fun e => hm (e ▸ List.mem_map_of_mem hx)
    rw [Array.getD_eq_getD_getElem?, Array.getElem?_setIfInBounds_ne hne, ← Array.getD_eq_getD_getElem?]
    exact h2 j hj hm
   ·by_cases e : y.1 = x.1
    ·have hyx : y = x := by
      obtain ⟨i1, hi1⟩ := List.getElem?_of_mem hy
      obtain ⟨i2, hi2⟩ := List.getElem?_of_mem hx
      have e1 : (rem.map (·.1))[i1]? = some y.1 := by rw [List.getElem?_map, hi1]; rfl
      have e2 : (rem.map (·.1))[i2]? = some y.1 := by rw [List.getElem?_map, hi2, e]; rfl
      have e3 := (List.getElem?_inj (List.getElem?_eq_some_iff.1 e1).1 hni).1 (e1.trans e2.symm)
      subst e3
      rw [hi1] at hi2
      exact Option.some.inj hi2
     subst hyx
     rw [eval_put_self (by rw [h3.size]; exact hsz y hy)]
     exact hv
    ·have hne : x.2 ≠ y.2 := fun e2 => by
      obtain ⟨i1, hi1⟩ := List.getElem?_of_mem hy
      obtain ⟨i2, hi2⟩ := List.getElem?_of_mem hx
      have e1 : (rem.map (·.2))[i1]? = some y.2 := by rw [List.getElem?_map, hi1]; rfl
      have e2' : (rem.map (·.2))[i2]? = some y.2 := by rw [List.getElem?_map, hi2, ← e2]; rfl
      have e3 := (List.getElem?_inj (List.getElem?_eq_some_iff.1 e1).1 hnd).1 (e1.trans e2'.symm)
      subst e3
      rw [hi1] at hi2
      exact e (by rw [Option.some.inj hi2])
     rw [eval_put hne]
     rw [Array.getD_eq_getD_getElem?, Array.getElem?_setIfInBounds_ne (fun e2 => e e2.symm), ← Array.getD_eq_getD_getElem?] at hl'
     exact hst _ _ _ _ (h5 y hy hl') hk
  ·rw [g2] at ho'
   cases ho'
   rw [← hon]
   exact g3 e he hb
/-- What the law asks of the region itself, by evaluation. -/
def memOk (ops : Array Oper) (rem : List (Nat × Nat)) (listed : Array Bool) (tsize fuel : Nat) : Bool :=
 (listed.size == ops.size) && (List.range ops.size).all (fun i => rem.any (fun x => x.1 == i) || listed.getD i false) && rem.all (fun x => !listed.getD x.1 false && decide (x.1 < ops.size) && decide (x.2 < tsize)) &&
 decide (rem.map (·.1)).Nodup && decide (rem.map (·.2)).Nodup && decide (listed.toList.count false ≤ fuel) && (List.range ops.size).all (fun i => ((ops[i]?).map (fun o : Oper => o.after.all (fun e => decide (e.on < i)))).getD true)
theorem wpAnyH_mem' {S : World → Prop} (rem : List (Nat × Nat)) (Spec : Nat → Value → World → Prop) {fuel : Nat} {listed0 : Array Bool} {a0 : Act} {w0 : World} (hst : ∀ k v w w', Spec k v w → Soft w0 w w' → Spec k v w') (hok : memOk ops rem listed0 a0.tmps.size fuel = true)
  (hop : ∀ x ∈ rem, ∀ a w, OffD (rem.map (·.2)) a0 a → Soft w0 w0 w → (∀ y ∈ rem, (∃ o : Oper, ops[x.1]? = some o ∧ ∃ e ∈ o.after, Region.binds md e = true ∧ e.on = y.1) → Spec y.1 (a.eval (.tmp y.2)) w) →
   wpOp P ops Q x.1 (fun a' w' => ∃ v, a' = a.put (some x.2) v ∧ Spec x.1 v w' ∧ Soft w0 w w') a w)
  (hS : ∀ w, Soft w0 w0 w → S w) (hfin : ∀ a w, OffD (rem.map (·.2)) a0 a → Soft w0 w0 w → (∀ x ∈ rem, Spec x.1 (a.eval (.tmp x.2)) w) → Q .normal a w) :
  wpAnyH P md ops Q S fuel listed0 a0 w0 := by
 unfold memOk at hok
 simp only [Bool.and_eq_true, beq_iff_eq, List.all_eq_true, decide_eq_true_eq, Bool.or_eq_true, List.any_eq_true, List.mem_range, Bool.not_eq_true'] at hok
 obtain ⟨⟨⟨⟨⟨⟨h1, h2⟩, h3⟩, h4⟩, h5⟩, h6⟩, h7⟩ := hok
 refine wpAnyH_mem rem Spec ?_ h5 h4 hst h1 (fun i hi hm => ?_) (fun x hx => (h3 x hx).1.1) (fun x hx => (h3 x hx).1.2) (fun x hx => (h3 x hx).2) h6 hop hS hfin
 ·intro i o ho e he
  have hi : i < ops.size := (Array.getElem?_eq_some_iff.1 ho).1
  have := h7 i hi
  rw [ho] at this
  simp only [Option.map_some, Option.getD_some, Array.all_eq_true_iff_forall_mem, decide_eq_true_eq] at this
  exact this e he
 ·rcases h2 i hi with ⟨x, hx, rfl⟩ | h
  ·exact absurd (List.mem_map_of_mem hx) hm
  ·exact h
end
theorem SlAt.soft {w0 w w' : World} {A : Option Addr} {n c : Nat} {xs : List Value} (h : SlAt w A n c xs) (hs : Soft w0 w w') : SlAt w' A n c xs :=
 ⟨h.len, h.le, h.max, fun hn => by
  obtain ⟨b, o, e, hb, hc⟩ := h.cells hn
  refine ⟨b, o, e, Nat.lt_of_lt_of_le hb hs.size, fun i hi => ?_⟩
  have h1 := hc i hi
  have hl := h.len
  rw [List.getElem?_eq_getElem (by omega)] at h1 ⊢
  exact hs.cell _ _ h1⟩
end Go.Proofs.YtbnflbkaogpnbaaGreat
namespace Go.Proofs.YtbnflbkaogpnbaaGreat
set_option linter.unusedVariables false
open Go.RowKit
/-- Bytes in a block of their own; numbers; deeds. -/
def BS (n : Nat) (v : Value) (w : World) : Prop := ∃ (b : Nat) (xs : List UInt8), v = .slice (some ⟨b, 0, none⟩) n n ∧ SlAt w (some ⟨b, 0, none⟩) n n (u8vs xs)
def BC (z : Nat) (v : Value) (w : World) : Prop := ∃ (b n : Nat) (C : Array Value) (fz : Nat × Nat), z ≤ b ∧ v = .slice (some ⟨b, 0, none⟩) n n ∧ w.heap[b]? = some (.cells C 5 fz)
def IS (n : Nat) (v : Value) (w : World) : Prop := ∃ (b : Nat) (xs : List Int), v = .slice (some ⟨b, 0, none⟩) n n ∧ SlAt w (some ⟨b, 0, none⟩) n n (xs.map i64v) ∧ ∀ x ∈ xs, I64 x
section
variable {w0 w w' : World} {v : Value} {n : Nat}
theorem BS.soft (h : BS n v w) (hs : Soft w0 w w') : BS n v w' := by
 obtain ⟨b, xs, h1, h2⟩ := h
 exact ⟨b, xs, h1, h2.soft hs⟩
theorem BC.soft {z : Nat} (h : BC z v w) (hs : Soft w0 w w') : BC z v w' := by
 obtain ⟨b, n, C, fz, hz, h1, h2⟩ := h
 obtain ⟨fz', h3⟩ := hs.cells b C _ fz h2
 exact ⟨b, n, C, fz', hz, h1, h3⟩
theorem IS.soft (h : IS n v w) (hs : Soft w0 w w') : IS n v w' := by
 obtain ⟨b, xs, h1, h2, h3⟩ := h
 exact ⟨b, xs, h1, h2.soft hs, h3⟩
end
theorem wpOp_run {P : Program} {ops : Array Oper} {Q : Exit → Act → World → Prop} {i : Nat} {K : Act → World → Prop} {a : Act} {w : World} {o : Oper} (h : ops[i]? = some o) (hg : o.guard = none) (hr : o.wp P a w K Q) : wpOp P ops Q i K a w := by
 unfold wpOp
 rw [h]
 simp only
 rw [if_pos (by simp [Region.wanted, hg])]
 exact .inl hr
theorem run_convert_bytes (w : World) (b n c : Nat) (C : Array Value) (fz : Nat × Nat) (hb : w.heap[b]? = some (.cells C 5 fz)) :
  (convert 45 45 (.slice (some ⟨b, 0, none⟩) n c)).run Tryz.prog w = .ok (.slice (some ⟨b, 0, none⟩) n c) (w.freeze ⟨b, C.size, none⟩ 1) := by
 have hsh : w.shape? b = some (5, C.size) := by
  unfold World.shape?
  rw [hb]
 simp [convert, run_underlying Tryz.underlying45, run_underlying Tryz.underlying5, markStringish, hsh]
theorem freeze_soft {w0 w : World} {b k : Nat} (hb : w0.heap.size ≤ b) : Soft w0 w (w.freeze ⟨b, k, none⟩ 1) := by
 have hh : ∀ j, (w.freeze ⟨b, k, none⟩ 1).heap[j]? = if b = j then (w.heap[j]?).map (fun | .cells c elem (lo, hi) => .cells c elem (if lo == hi then (k, k + 1) else (min lo k, max hi (k + 1))) | o => o) else w.heap[j]? := fun j => by
  simp only [World.freeze, if_neg (show ¬ (1 : Nat) = 0 by omega)]
  rw [Array.getElem?_modify]
  rfl
 refine ⟨rfl, rfl, rfl, by simp [World.freeze], fun j hj => by rw [hh, if_neg (by omega)], fun j C t fz hj => ?_, fun p v hp => ?_⟩
 ·rw [hh]
  by_cases e : b = j
  ·rw [if_pos e, hj]
   obtain ⟨lo, hi⟩ := fz
   exact ⟨_, rfl⟩
  ·rw [if_neg e, hj]
   exact ⟨_, rfl⟩
 ·rw [← hp]
  simp only [World.cell?]
  rw [hh]
  by_cases e : b = p.block
  ·rw [if_pos e]
   cases hx : w.heap[p.block]? with
   | none => rfl
   | some o => cases o <;> rfl
  ·rw [if_neg e]
end Go.Proofs.YtbnflbkaogpnbaaGreat
