/- A region that draws its order and makes memory at several places: by what each operation yields, whatever the order. -/
import Derived.Test.YtbnflbkaogpnbaaVA
import Derived.OrdersHeld
namespace Go.Proofs.Ytbnflbkaogpnbaa
set_option linter.unusedVariables false
open Go.RowKit

theorem count_set {l : List Bool} : ∀ {i : Nat}, l[i]? = some false → (l.set i true).count false + 1 = l.count false := by
  induction l with
  | nil => intro i h; simp at h
  | cons b l ih =>
    intro i h
    cases i with
    | zero =>
      simp at h
      subst h
      simp
    | succ i =>
      have := ih (i := i) (by simpa using h)
      simp only [List.set_cons_succ, List.count_cons]
      omega

/-- w' is w but for new blocks and marks; what w0 had is untouched. -/
structure Soft (w0 w w' : World) : Prop where
  os : w'.os = w.os
  tape : w'.tape = w.tape
  output : w'.output = w.output
  size : w.heap.size ≤ w'.heap.size
  old : ∀ k : Nat, k < w0.heap.size → w'.heap[k]? = w.heap[k]?
  cells : ∀ (k : Nat) (C : Array Value) (t : TypeId) (fz : Nat × Nat), w.heap[k]? = some (.cells C t fz) → ∃ fz' : Nat × Nat, w'.heap[k]? = some (.cells C t fz')
  cell : ∀ p v, w.cell? p = some v → w'.cell? p = some v

theorem Soft.refl (w0 w : World) : Soft w0 w w := ⟨rfl, rfl, rfl, Nat.le_refl _, fun _ _ => rfl, fun k C t fz h => ⟨fz, h⟩, fun _ _ h => h⟩
theorem Soft.trans {w0 a b c : World} (h : Soft w0 a b) (k : Soft w0 b c) : Soft w0 a c :=
  ⟨k.os.trans h.os, k.tape.trans h.tape, k.output.trans h.output, Nat.le_trans h.size k.size, fun i hi => (k.old i hi).trans (h.old i hi), fun i C t fz hi => by
    obtain ⟨fz', h1⟩ := h.cells i C t fz hi
    exact k.cells i C t fz' h1, fun p v hp => k.cell p v (h.cell p v hp)⟩
theorem Soft.of_kept {w0 w w' : World} (h : Kept [] w w') (hz : w0.heap.size ≤ w.heap.size) : Soft w0 w w' :=
  ⟨h.os, h.tape, h.output, h.size, fun k hk => h.block k (by omega) (by simp), fun k C t fz hk => ⟨fz, (h.block k (World.lt_of_heap hk) (by simp)).trans hk⟩, fun p v hp => by
    obtain ⟨b, o, mk⟩ := p
    have hl : b < w.heap.size := by
      rcases Nat.lt_or_ge b w.heap.size with h' | h'
      · exact h'
      · simp [World.cell?, Array.getElem?_eq_none h'] at hp
    rw [← hp]
    exact World.cell?_of_block (h.block b hl (by simp))⟩
theorem Soft.kept {w0 w : World} (h : Soft w0 w0 w) : Kept [] w0 w := ⟨h.os, h.tape, h.output, h.size, fun k hk _ => h.old k hk⟩
section
variable {P : Program} {md : Region.Mode} {ops : Array Oper} {Q : Exit → Act → World → Prop}

theorem ready_getD {listed : Array Bool} {i : Nat} (h : listed.getD i true = false) : listed.toList[i]? = some false := by
  rw [Array.getD_eq_getD_getElem?] at h
  rw [Array.getElem?_toList]
  cases hx : listed[i]? with
  | none => rw [hx] at h; cases h
  | some b => rw [hx] at h; simp at h; rw [h]

/-- Where nothing is ready all has come up: no operation waits for a later one. -/
theorem ready_nil_all {listed : Array Bool} (hord : ∀ (i : Nat) (o : Oper), ops[i]? = some o → ∀ e ∈ o.after, e.on < i) (hs : listed.size = ops.size) (hr : Region.ready md ops listed = []) : ∀ i, i < ops.size → listed.getD i false = true := by
  intro i
  induction i using Nat.strongRecOn with
  | _ i ih =>
    intro hi
    by_cases hc : listed.getD i false = true
    · exact hc
    · exfalso
      have h1 : listed.getD i true = false := by
        rw [Array.getD_eq_getD_getElem?] at hc ⊢
        rw [Array.getElem?_eq_getElem (by omega)] at hc ⊢
        simpa using hc
      have ho : ops[i]? = some ops[i] := Array.getElem?_eq_getElem hi
      have hm : i ∈ Region.ready md ops listed := mem_ready.2 ⟨h1, _, ho, fun e he _ => ih e.on (hord i _ ho e he) (by have := hord i _ ho e he; omega)⟩
      rw [hr] at hm
      cases hm

theorem wpAnyH_inv {S : World → Prop} (J : Array Bool → Act → World → Prop) (hdone : ∀ listed a w, Region.ready md ops listed = [] → J listed a w → Q .normal a w)
    (hstep : ∀ listed a w i, i ∈ Region.ready md ops listed → J listed a w → wpOp P ops Q i (fun a' w' => S w' ∧ J (listed.setIfInBounds i true) a' w') a w) :
    ∀ (fuel : Nat) (listed : Array Bool) (a : Act) (w : World), J listed a w → listed.toList.count false ≤ fuel → wpAnyH P md ops Q S fuel listed a w
  | 0, listed, a, w, h, hc => by
    have hr : Region.ready md ops listed = [] := by
      apply List.eq_nil_iff_forall_not_mem.2
      intro i hi
      have h1 := ready_getD (mem_ready.1 hi).1
      have h2 := List.count_pos_iff.2 (List.mem_of_getElem? h1)
      omega
    exact ⟨hr, hdone _ _ _ hr h⟩
  | fuel + 1, listed, a, w, h, hc => ⟨fun hr => hdone _ _ _ hr h, fun i hi => wpOp_mono (fun a' w' h' => ⟨h'.1, wpAnyH_inv J hdone hstep fuel _ a' w' h'.2 (by
      have h1 := count_set (ready_getD (mem_ready.1 hi).1)
      rw [Array.toList_setIfInBounds]
      omega)⟩) (hstep _ _ _ i hi h)⟩

/-- An act that differs from another one in some slots. -/
structure OffD (D : List Nat) (a0 a : Act) : Prop where
  defers : a.defers = a0.defers
  size : a.tmps.size = a0.tmps.size
  off : ∀ s, s ∉ D → a.tmps[s]? = a0.tmps[s]?

theorem OffD.refl (D : List Nat) (a : Act) : OffD D a a := ⟨rfl, rfl, fun _ _ => rfl⟩
theorem OffD.put {D : List Nat} {a0 a : Act} (h : OffD D a0 a) {d : Nat} (hd : d ∈ D) (v : Value) : OffD D a0 (a.put (some d) v) := by
  refine ⟨h.defers, by simp [Act.put, h.size], fun s hs => ?_⟩
  have : d ≠ s := fun e => hs (e ▸ hd)
  simp only [Act.put]
  rw [Array.getElem?_setIfInBounds_ne this]
  exact h.off s hs

theorem OffD.eval {D : List Nat} {a0 a : Act} (h : OffD D a0 a) {s : Nat} (hs : s ∉ D) : a.eval (.tmp s) = a0.eval (.tmp s) := by
  have := h.off s hs
  simp only [Act.eval, Array.getD_eq_getD_getElem?, this]

theorem eval_put {a : Act} {d s : Nat} {v : Value} (h : d ≠ s) : (a.put (some d) v).eval (.tmp s) = a.eval (.tmp s) := by
  simp only [Act.eval, Act.put, Array.getD_eq_getD_getElem?]
  rw [Array.getElem?_setIfInBounds_ne h]

theorem eval_put_self {a : Act} {d : Nat} {v : Value} (h : d < a.tmps.size) : (a.put (some d) v).eval (.tmp d) = v := by
  simp [Act.eval, Act.put, h]

/-- The same act, written out. -/
theorem OffD.puts {a : Act} : ∀ {D : List Nat} {a0 : Act}, OffD D a0 a → (∀ s ∈ D, s < a0.tmps.size) → a = D.foldl (fun b s => b.put (some s) (a.eval (.tmp s))) a0 := by
  intro D
  induction D with
  | nil =>
    intro a0 h _
    obtain ⟨t, df⟩ := a
    obtain ⟨t0, df0⟩ := a0
    have h1 := h.defers
    simp only at h1
    subst h1
    have h2 : t = t0 := Array.ext_getElem? (fun i => h.off i (by simp))
    rw [h2]
    rfl
  | cons s D ih =>
    intro a0 h hD
    rw [List.foldl_cons]
    refine ih ⟨h.defers, by simp [Act.put, h.size], fun k hk => ?_⟩ (fun k hk => by simp [Act.put]; exact hD k (List.mem_cons_of_mem _ hk))
    simp only [Act.put]
    by_cases e : s = k
    · subst e
      have h0 := hD s List.mem_cons_self
      rw [Array.getElem?_setIfInBounds_self_of_lt h0]
      simp only [Act.eval, Array.getD_eq_getD_getElem?]
      rw [Array.getElem?_eq_getElem (by rw [h.size]; exact h0)]
      rfl
    · rw [Array.getElem?_setIfInBounds_ne e]
      exact h.off k (by simp; exact ⟨fun e2 => e e2.symm, hk⟩)

/-- The law: each operation that is left yields what is said of it, whatever has come up beside what it waits for. -/
theorem wpAnyH_mem {S : World → Prop} (rem : List (Nat × Nat)) (Spec : Nat → Value → World → Prop) 
    (hord : ∀ (i : Nat) (o : Oper), ops[i]? = some o → ∀ e ∈ o.after, e.on < i) (hnd : (rem.map (·.2)).Nodup) (hni : (rem.map (·.1)).Nodup) {fuel : Nat} {listed0 : Array Bool} {a0 : Act} {w0 : World} (hst : ∀ k v w w', Spec k v w → Soft w0 w w' → Spec k v w')
    (hs : listed0.size = ops.size) (hl : ∀ i, i < ops.size → i ∉ rem.map (·.1) → listed0.getD i false = true) (hl2 : ∀ x ∈ rem, listed0.getD x.1 false = false) (hb : ∀ x ∈ rem, x.1 < ops.size) (hsz : ∀ x ∈ rem, x.2 < a0.tmps.size) (hc : listed0.toList.count false ≤ fuel)
    (hop : ∀ x ∈ rem, ∀ a w, OffD (rem.map (·.2)) a0 a → Soft w0 w0 w → (∀ y ∈ rem, (∃ o : Oper, ops[x.1]? = some o ∧ ∃ e ∈ o.after, Region.binds md e = true ∧ e.on = y.1) → Spec y.1 (a.eval (.tmp y.2)) w) →
      wpOp P ops Q x.1 (fun a' w' => ∃ v, a' = a.put (some x.2) v ∧ Spec x.1 v w' ∧ Soft w0 w w') a w)
    (hS : ∀ w, Soft w0 w0 w → S w) (hfin : ∀ a w, OffD (rem.map (·.2)) a0 a → Soft w0 w0 w → (∀ x ∈ rem, Spec x.1 (a.eval (.tmp x.2)) w) → Q .normal a w) :
    wpAnyH P md ops Q S fuel listed0 a0 w0 := by
  refine wpAnyH_inv (fun listed a w => listed.size = ops.size ∧ (∀ i, i < ops.size → i ∉ rem.map (·.1) → listed.getD i false = true) ∧ OffD (rem.map (·.2)) a0 a ∧ Soft w0 w0 w ∧ ∀ x ∈ rem, listed.getD x.1 false = true → Spec x.1 (a.eval (.tmp x.2)) w) ?_ ?_ fuel listed0 a0 w0 ⟨hs, hl, OffD.refl _ _, Soft.refl _ _, fun x hx h => by rw [hl2 x hx] at h; cases h⟩ hc
  · rintro listed a w hr ⟨h1, h2, h3, h4, h5⟩
    have hall := ready_nil_all hord h1 hr
    refine hfin a w h3 h4 (fun x hx => h5 x hx ?_)
    exact hall _ (hb x hx)
  · rintro listed a w i hi ⟨h1, h2, h3, h4, h5⟩
    obtain ⟨g1, o, g2, g3⟩ := mem_ready.1 hi
    have hil : i < ops.size := (Array.getElem?_eq_some_iff.1 g2).1
    have hir : i ∈ rem.map (·.1) := by
      by_cases hm : i ∈ rem.map (·.1)
      · exact hm
      · have h6 := h2 i hil hm
        rw [Array.getD_eq_getD_getElem?] at g1 h6
        rw [Array.getElem?_eq_getElem (by omega)] at g1 h6
        simp at g1 h6
        rw [g1] at h6
        cases h6
    obtain ⟨x, hx, rfl⟩ := List.mem_map.1 hir
    refine wpOp_mono ?_ (hop x hx a w h3 h4 (fun y hy ⟨o', ho', e, he, hb, hon⟩ => h5 y hy ?_))
    · rintro a' w' ⟨v, rfl, hv, hk⟩
      have hxd : x.2 ∈ rem.map (·.2) := List.mem_map_of_mem hx
      refine ⟨hS _ (h4.trans hk), by simp [h1], fun j hj hm => ?_, h3.put hxd v, h4.trans hk, fun y hy hl' => ?_⟩
      · have hne : x.1 ≠ j := fun e => hm (e ▸ List.mem_map_of_mem hx)
        rw [Array.getD_eq_getD_getElem?, Array.getElem?_setIfInBounds_ne hne, ← Array.getD_eq_getD_getElem?]
        exact h2 j hj hm
      · by_cases e : y.1 = x.1
        · have hyx : y = x := by
            obtain ⟨i1, hi1⟩ := List.getElem?_of_mem hy
            obtain ⟨i2, hi2⟩ := List.getElem?_of_mem hx
            have e1 : (rem.map (·.1))[i1]? = some y.1 := by rw [List.getElem?_map, hi1]; rfl
            have e2 : (rem.map (·.1))[i2]? = some y.1 := by rw [List.getElem?_map, hi2, e]; rfl
            have e3 := (List.getElem?_inj (List.getElem?_eq_some_iff.1 e1).1 hni).1 (e1.trans e2.symm)
            subst e3
            rw [hi1] at hi2
            exact Option.some.inj hi2
          subst hyx
          rw [eval_put_self (by rw [h3.size]; exact hsz y hy)]
          exact hv
        · have hne : x.2 ≠ y.2 := fun e2 => by
            obtain ⟨i1, hi1⟩ := List.getElem?_of_mem hy
            obtain ⟨i2, hi2⟩ := List.getElem?_of_mem hx
            have e1 : (rem.map (·.2))[i1]? = some y.2 := by rw [List.getElem?_map, hi1]; rfl
            have e2' : (rem.map (·.2))[i2]? = some y.2 := by rw [List.getElem?_map, hi2, ← e2]; rfl
            have e3 := (List.getElem?_inj (List.getElem?_eq_some_iff.1 e1).1 hnd).1 (e1.trans e2'.symm)
            subst e3
            rw [hi1] at hi2
            exact e (by rw [Option.some.inj hi2])
          rw [eval_put hne]
          rw [Array.getD_eq_getD_getElem?, Array.getElem?_setIfInBounds_ne (fun e2 => e e2.symm), ← Array.getD_eq_getD_getElem?] at hl'
          exact hst _ _ _ _ (h5 y hy hl') hk
    · rw [g2] at ho'
      cases ho'
      rw [← hon]
      exact g3 e he hb

/-- What the law asks of the region itself, by evaluation. -/
def memOk (ops : Array Oper) (rem : List (Nat × Nat)) (listed : Array Bool) (tsize fuel : Nat) : Bool :=
  (listed.size == ops.size) && (List.range ops.size).all (fun i => rem.any (fun x => x.1 == i) || listed.getD i false) && rem.all (fun x => !listed.getD x.1 false && decide (x.1 < ops.size) && decide (x.2 < tsize)) &&
  decide (rem.map (·.1)).Nodup && decide (rem.map (·.2)).Nodup && decide (listed.toList.count false ≤ fuel) && (List.range ops.size).all (fun i => ((ops[i]?).map (fun o : Oper => o.after.all (fun e => decide (e.on < i)))).getD true)

theorem wpAnyH_mem' {S : World → Prop} (rem : List (Nat × Nat)) (Spec : Nat → Value → World → Prop) {fuel : Nat} {listed0 : Array Bool} {a0 : Act} {w0 : World} (hst : ∀ k v w w', Spec k v w → Soft w0 w w' → Spec k v w') (hok : memOk ops rem listed0 a0.tmps.size fuel = true)
    (hop : ∀ x ∈ rem, ∀ a w, OffD (rem.map (·.2)) a0 a → Soft w0 w0 w → (∀ y ∈ rem, (∃ o : Oper, ops[x.1]? = some o ∧ ∃ e ∈ o.after, Region.binds md e = true ∧ e.on = y.1) → Spec y.1 (a.eval (.tmp y.2)) w) →
      wpOp P ops Q x.1 (fun a' w' => ∃ v, a' = a.put (some x.2) v ∧ Spec x.1 v w' ∧ Soft w0 w w') a w)
    (hS : ∀ w, Soft w0 w0 w → S w) (hfin : ∀ a w, OffD (rem.map (·.2)) a0 a → Soft w0 w0 w → (∀ x ∈ rem, Spec x.1 (a.eval (.tmp x.2)) w) → Q .normal a w) :
    wpAnyH P md ops Q S fuel listed0 a0 w0 := by
  unfold memOk at hok
  simp only [Bool.and_eq_true, beq_iff_eq, List.all_eq_true, decide_eq_true_eq, Bool.or_eq_true, List.any_eq_true, List.mem_range, Bool.not_eq_true'] at hok
  obtain ⟨⟨⟨⟨⟨⟨h1, h2⟩, h3⟩, h4⟩, h5⟩, h6⟩, h7⟩ := hok
  refine wpAnyH_mem rem Spec ?_ h5 h4 hst h1 (fun i hi hm => ?_) (fun x hx => (h3 x hx).1.1) (fun x hx => (h3 x hx).1.2) (fun x hx => (h3 x hx).2) h6 hop hS hfin
  · intro i o ho e he
    have hi : i < ops.size := (Array.getElem?_eq_some_iff.1 ho).1
    have := h7 i hi
    rw [ho] at this
    simp only [Option.map_some, Option.getD_some, Array.all_eq_true_iff_forall_mem, decide_eq_true_eq] at this
    exact this e he
  · rcases h2 i hi with ⟨x, hx, rfl⟩ | h
    · exact absurd (List.mem_map_of_mem hx) hm
    · exact h
end

theorem SlAt.soft {w0 w w' : World} {A : Option Addr} {n c : Nat} {xs : List Value} (h : SlAt w A n c xs) (hs : Soft w0 w w') : SlAt w' A n c xs :=
  ⟨h.len, h.le, h.max, fun hn => by
    obtain ⟨b, o, e, hb, hc⟩ := h.cells hn
    refine ⟨b, o, e, Nat.lt_of_lt_of_le hb hs.size, fun i hi => ?_⟩
    have h1 := hc i hi
    have hl := h.len
    rw [List.getElem?_eq_getElem (by omega)] at h1 ⊢
    exact hs.cell _ _ h1⟩
end Go.Proofs.Ytbnflbkaogpnbaa
