/- Texts in one: V0 V1 V2 V3 V4a. -/
import Derived.Test.YtbnflbkaogpnbaaMA
import Derived.RangeFuncNested
import Derived.RangeFuncBound
import Derived.RangeFuncCalls
import Derived.RangeFuncLeaves
import Derived.OrdersHeld
import Derived.OrdersIn
import Derived.Deep.RegionHeld3
import Derived.Test.YtbnflbkaogpnbaaUA
import Derived.Shelf.Abstract
import Derived.OwnWalkIn
import Derived.TacticsInMore
import Derived.LoopNIn
import Derived.LoopIn
import Derived.Test.YtbnflbkaogpnbaaSA
import Derived.Laws.CopyRow
/- A range over a function whose iterator may write cells of its own: what it promises, and the law of the loop. -/
namespace Go.Proofs.Ytbnflbkaogpnbaa
open Go.RowKit

/-- The blocks of R lie as they lay. -/
structure Stays (R : List Nat) (X Y : World) : Prop where
  size : X.heap.size ≤ Y.heap.size
  same : ∀ k ∈ R, k < X.heap.size → Y.heap[k]? = X.heap[k]?

theorem Stays.refl (R : List Nat) (X : World) : Stays R X X := ⟨Nat.le_refl _, fun _ _ _ => rfl⟩
theorem Stays.trans {R : List Nat} {X Y Z : World} (h : Stays R X Y) (k : Stays R Y Z) : Stays R X Z :=
  ⟨Nat.le_trans h.size k.size, fun i hi hl => (k.same i hi (Nat.lt_of_lt_of_le hl h.size)).trans (h.same i hi hl)⟩
theorem Stays.of_kept {R F : List Nat} {X Y : World} (h : Kept F X Y) (hR : ∀ k ∈ R, k < X.heap.size → k ∉ F) : Stays R X Y :=
  ⟨h.size, fun k hk hl => h.block k hl (hR k hk hl)⟩

theorem Kept.putObj {F : List Nat} {r : Nat} (hr : r ∈ F) (W : World) (o : Obj) : Kept F W (W.putObj r o) :=
  ⟨rfl, rfl, rfl, by simp, fun k _ hn => World.putObj_heap_other (fun e => hn (e ▸ hr))⟩

/-- What an iterator's value promises: B the blocks that it writes, R those that a round must let lie, G what it says of a thing it gives. -/
def SeqAt {α : Type} (F : Fence) (n : Nat) (P : Program) (g : Nat) (lb : Array Value) (encs : α → Array Value) (B R : List Nat) (G : List α → World → α → World → Prop) (S Sp : List α → Prop) (w : World) : Prop :=
  ∀ (l : Nat) (J Jx : List α → World → Prop) (W : World), Kept [] w W →
    (∀ s X Y, J s X → Kept B X Y → J s Y) → (∀ s X Y, Jx s X → Kept B X Y → Jx s Y) →
    (∀ pre x X0 X, J pre X0 → W.heap.size ≤ X0.heap.size → Kept B X0 X → G pre X0 x X → YieldAt F (n - 1) P l (encs x) X fun e Y =>
      (e = .returned (.bool true) ∧ J (pre ++ [x]) Y ∧ Stays R X Y) ∨ (e = .returned (.bool false) ∧ Jx (pre ++ [x]) Y ∧ X.heap.size ≤ Y.heap.size)) →
    J [] W →
    CallsIn F n P g (#[.func (.yield l) #[] #[]] ++ lb) W fun e Y => (∃ v, e = .returned v) ∧ ((∃ xs, S xs ∧ J xs Y) ∨ (∃ pre, Sp pre ∧ Jx pre Y))

/-- How the body of a round may be left. -/
def keptPost {α : Type} (D : Nat) (R : List Nat) (I : List α → World → Prop) (Ix : Code → List α → World → Prop) (xs : List α) (W : World) : Exit → Act → World → Prop
  | .normal, _, W' => Stays (D :: (D + 1) :: R) W W' ∧ I xs W'
  | .ret, _, W' => Stays [D, D + 1] W W' ∧ Ix .ret xs W'
  | .exit id, _, W' => Stays [D, D + 1] W W' ∧ Ix (.exit id) xs W'
  | .goto t, _, W' => Stays [D, D + 1] W W' ∧ Ix (.goto t) xs W'
  | .panic _, _, _ => False
  | .outgrown, _, _ => False

variable {F : Fence} {n : Nat} {P : Program}

theorem wpIn_rangeFunc_kept {α : Type} {g : Operand} {ps : Array Tmp} {assign body : Code} {Q : Exit → Act → World → Prop} {a : Act} {w : World}
    (hro : F.round = none) (h1 : 1 ≤ n) {gf : Nat} {lb : Array Value} (hg : a.eval g = .func (.func gf) #[] lb) (hFg : F.fn gf) (eg : ∀ args w, (callFunc gf args).run P w = .ok (.enter gf args) w)
    {encs : α → Array Value} {B R : List Nat} {G : List α → World → α → World → Prop} {S Sp : List α → Prop} (hseq : SeqAt F (n - 1) P gf lb encs B R G S Sp w) (hps : ∀ x, (encs x).size = ps.size)
    (hB : ∀ k ∈ B, k < w.heap.size) (hR : ∀ k ∈ R, k < w.heap.size)
    (hG : ∀ pre X0 x X Y, w.heap.size + 2 ≤ X0.heap.size → G pre X0 x X → Kept [w.heap.size, w.heap.size + 1] X Y → G pre X0 x Y)
    (I : List α → World → Prop) (Ix : Code → List α → World → Prop) (hI : ∀ s X Y, I s X → Kept (w.heap.size :: (w.heap.size + 1) :: B) X Y → I s Y)
    (hIx : ∀ c s X Y, Ix c s X → Kept (w.heap.size :: (w.heap.size + 1) :: B) X Y → Ix c s Y) (h0 : I [] w) (a₁ : α → Act)
    (hassign : ∀ (l : Nat) (x : α) (W : World) (K : Act → World → Prop), K (a₁ x) W →
      assign.wpIn (F.inRound l) (n - 1 - 1) P (Exit.then K (fun _ _ _ => False)) { tmps := (ps.zip (encs x)).foldl (fun t (p, v) => t.setIfInBounds p v) a.tmps, defers := [] } W)
    (hbody : ∀ (l : Nat) (pre : List α) (x : α) (X0 X : World), w.heap.size + 2 ≤ X0.heap.size → I pre X0 → Kept (w.heap.size :: (w.heap.size + 1) :: B) X0 X → G pre X0 x X →
      body.wpIn (F.inRound l) (n - 1 - 1) P (keptPost w.heap.size R I Ix (pre ++ [x]) X) (a₁ x) X)
    (hdone : ∀ (xs : List α) (W : World), S xs → I xs W → W.heap[w.heap.size]? = some (.deferred (some [])) → Q .normal { a with defers := { target := .collected w.heap.size, args := #[] } :: a.defers } W)
    (hstop : ∀ (c : Code) (pre : List α) (W : World), Sp pre → Ix c pre W → W.heap[w.heap.size]? = some (.deferred (some [])) → c.wpIn F n P Q { a with defers := { target := .collected w.heap.size, args := #[] } :: a.defers } W) :
    (Code.rangeFunc g ps assign body).wpIn F n P Q a w := by
  refine wpIn_rangeFunc ?_
  intro fn hfn
  rw [hro]
  obtain ⟨rec, hrec⟩ : ∃ rec : LoopState → Option Code → Loop, rec = fun st pe => { state := st, pending := pe, fn, tmps := a.tmps, params := ps, assign, body, defers := w.heap.size } := ⟨_, rfl⟩
  obtain ⟨W1, hW1⟩ : ∃ W1, (w.alloc (.deferred (some []))).alloc (.loop (rec .ready none)) = W1 := ⟨_, rfl⟩
  have hL1 : W1.heap[w.heap.size + 1]? = some (.loop (rec .ready none)) := by
    rw [← hW1]; have := World.alloc_heap_new (w.alloc (.deferred (some []))) (.loop (rec .ready none)); rwa [World.size_alloc] at this
  have hK1 : W1.heap[w.heap.size]? = some (.deferred (some [])) := by
    rw [← hW1]; exact (Below.heap_alloc _ _ _ (by simp)).trans (World.alloc_heap_new w _)
  have hk1 : Kept [] w W1 := by rw [← hW1]; exact (Kept.alloc [] w _).trans (Kept.alloc [] _ _)
  have hs1 : W1.heap.size = w.heap.size + 2 := by rw [← hW1]; simp
  have hI1 : I [] W1 := hI _ _ _ h0 (hk1.mono (by simp))
  have hBD : w.heap.size ∉ B ∧ w.heap.size + 1 ∉ B := ⟨fun h => by have := hB _ h; omega, fun h => by have := hB _ h; omega⟩
  have hsub : ∀ {X Y : World}, Kept B X Y → Kept (w.heap.size :: (w.heap.size + 1) :: B) X Y := fun h => h.mono (fun i hi => .inl (by simp [hi]))
  refine ⟨w.heap.size + 1, [{ target := .collected w.heap.size, args := #[] }], W1, { target := .fn (.func gf) lb, args := #[.func (.yield (w.heap.size + 1)) #[] #[]] }, W1, gf,
    #[.func (.yield (w.heap.size + 1)) #[] #[]] ++ lb, W1, ?_, ?_, ?_, ?_, fun _ => h1, ?_⟩
  · rw [← hW1, hrec]; exact run_enterLoop_outer _ _ _ _ _
  · simp only [resolve, hg]
    simp [go_sem]
  · intro f' hf'; simp [Target.leads] at hf'; subst hf'; exact hFg
  · simp [invoke, go_sem, eg]
  · refine (hseq (w.heap.size + 1)
      (fun pre W => I pre W ∧ W.heap[w.heap.size + 1]? = some (.loop (rec .ready none)) ∧ W.heap[w.heap.size]? = some (.deferred (some [])))
      (fun pre W => ∃ c, Ix c pre W ∧ W.heap[w.heap.size + 1]? = some (.loop (rec .done (some c))) ∧ W.heap[w.heap.size]? = some (.deferred (some [])))
      W1 hk1
      (fun s X Y hs hk => ⟨hI s X Y hs.1 (hsub hk), (hk.block _ (Array.getElem?_eq_some_iff.1 hs.2.1).1 hBD.2).trans hs.2.1, (hk.block _ (Array.getElem?_eq_some_iff.1 hs.2.2).1 hBD.1).trans hs.2.2⟩)
      (fun s X Y hs hk => by
        obtain ⟨c, hc, hl, hd⟩ := hs
        exact ⟨c, hIx c s X Y hc (hsub hk), (hk.block _ (Array.getElem?_eq_some_iff.1 hl).1 hBD.2).trans hl, (hk.block _ (Array.getElem?_eq_some_iff.1 hd).1 hBD.1).trans hd⟩)
      ?_ ⟨hI1, hL1, hK1⟩).mono ?_
    · rintro pre x X0 W ⟨hi0, hl0, hd0⟩ hsz hkX hGx
      rw [hs1] at hsz
      have hl := (hkX.block _ (Array.getElem?_eq_some_iff.1 hl0).1 hBD.2).trans hl0
      have hk := (hkX.block _ (Array.getElem?_eq_some_iff.1 hd0).1 hBD.1).trans hd0
      have hlt : w.heap.size + 1 < W.heap.size := (Array.getElem?_eq_some_iff.1 hl).1
      have hy := run_yield (P := P) (args := encs x) hl (by rw [hrec]; exact hps x)
      rw [hrec] at hy
      refine ⟨fn, _, assign, body, hy, roundIn_of_wpIn hfn (hassign _ x W _ ⟨_, run_beginRound hl (by rw [hrec]), ?_⟩)⟩
      clear hy
      have hl2 : (W.putObj (w.heap.size + 1) (.loop { rec .ready none with state := .busy })).heap[w.heap.size + 1]? = some (.loop { rec .ready none with state := .busy }) := World.putObj_heap_same hlt
      have hk2 : (W.putObj (w.heap.size + 1) (.loop { rec .ready none with state := .busy })).heap[w.heap.size]? = some (.deferred (some [])) := (World.putObj_heap_other (by omega)).trans hk
      have hkW2 : Kept [w.heap.size, w.heap.size + 1] W (W.putObj (w.heap.size + 1) (.loop { rec .ready none with state := .busy })) := Kept.putObj (by simp) _ _
      have hsW2 : W.heap.size = (W.putObj (w.heap.size + 1) (.loop { rec .ready none with state := .busy })).heap.size := by simp
      refine wpIn_mono (hbody _ pre x X0 _ hsz hi0 ((hsub hkX).trans (hkW2.mono (by simp))) (hG pre X0 x W _ hsz hGx hkW2)) ?_
      have fin : ∀ (jump : Option Code) (W3 : World), Stays [w.heap.size, w.heap.size + 1] (W.putObj (w.heap.size + 1) (.loop { rec .ready none with state := .busy })) W3 →
          (Instr.endRound (w.heap.size + 1) jump).run P W3 = .ok (.bool jump.isNone) (W3.putObj (w.heap.size + 1) (.loop (rec (if jump.isNone then .ready else .done) jump))) ∧
          W3.heap[w.heap.size + 1]? = some (.loop { rec .ready none with state := .busy }) ∧
          (W3.putObj (w.heap.size + 1) (.loop (rec (if jump.isNone then .ready else .done) jump))).heap[w.heap.size + 1]? = some (.loop (rec (if jump.isNone then .ready else .done) jump)) ∧
          (W3.putObj (w.heap.size + 1) (.loop (rec (if jump.isNone then .ready else .done) jump))).heap[w.heap.size]? = some (.deferred (some [])) := fun jump W3 hk3 => by
        have hl3 := (hk3.same _ (by simp) (Array.getElem?_eq_some_iff.1 hl2).1).trans hl2
        have := run_endRound (P := P) jump hl3
        rw [hrec] at this ⊢
        exact ⟨this, by rw [hrec] at hl3; exact hl3, World.putObj_heap_same (Array.getElem?_eq_some_iff.1 hl3).1, (World.putObj_heap_other (by omega)).trans ((hk3.same _ (by simp) (Array.getElem?_eq_some_iff.1 hk2).1).trans hk2)⟩
      have put : ∀ (W3 : World) (o : Obj), Kept (w.heap.size :: (w.heap.size + 1) :: B) W3 (W3.putObj (w.heap.size + 1) o) := fun W3 o => Kept.putObj (by simp) _ _
      rintro e a3 W3 hp
      cases e with
      | normal =>
        obtain ⟨hk3, hi3⟩ := hp
        obtain ⟨hr, hl3, hl4, hk4⟩ := fin none W3 ⟨hk3.size, fun k hk => hk3.same k (by simp at hk ⊢; rcases hk with rfl | rfl <;> simp)⟩
        refine ⟨_, _, hr, .inl ⟨rfl, ⟨hI _ _ _ hi3 (put _ _), hl4, hk4⟩, ⟨by simpa using hk3.size, fun k hkR hkl => ?_⟩⟩⟩
        have hne : k ≠ w.heap.size + 1 := fun e => by have := hR k hkR; omega
        exact (World.putObj_heap_other hne).trans ((hk3.same k (by simp [hkR]) (by simpa using hkl)).trans (World.putObj_heap_other hne))
      | ret =>
        obtain ⟨hk3, hi3⟩ := hp
        obtain ⟨hr, hl3, hl4, hk4⟩ := fin (some .ret) W3 hk3
        exact ⟨_, _, hr, .inr ⟨rfl, ⟨.ret, hIx _ _ _ _ hi3 (put _ _), hl4, hk4⟩, by simpa using hk3.size⟩⟩
      | exit id =>
        obtain ⟨hk3, hi3⟩ := hp
        obtain ⟨hr, hl3, hl4, hk4⟩ := fin (some (.exit id)) W3 hk3
        exact ⟨_, _, hr, .inr ⟨rfl, ⟨.exit id, hIx _ _ _ _ hi3 (put _ _), hl4, hk4⟩, by simpa using hk3.size⟩⟩
      | goto t =>
        obtain ⟨hk3, hi3⟩ := hp
        obtain ⟨hr, hl3, hl4, hk4⟩ := fin (some (.goto t)) W3 hk3
        exact ⟨_, _, hr, .inr ⟨rfl, ⟨.goto t, hIx _ _ _ _ hi3 (put _ _), hl4, hk4⟩, by simpa using hk3.size⟩⟩
      | panic ch => exact hp.elim
      | outgrown => exact hp.elim
    · rintro e W2 ⟨⟨v, rfl⟩, (⟨xs, hS, hi, hl, hk⟩ | ⟨pre, hSp, c, hi, hl, hk⟩)⟩
      · exact ⟨none, _, by have := run_endLoop (P := P) hl (by rw [hrec]; simp); rw [hrec] at this; exact this, hdone xs _ hS (hI _ _ _ hi (Kept.putObj (by simp) _ _)) ((World.putObj_heap_other (by omega)).trans hk)⟩
      · exact ⟨some c, _, by have := run_endLoop (P := P) hl (by rw [hrec]; simp); rw [hrec] at this; exact this, hstop c pre _ hSp (hIx c _ _ _ hi (Kept.putObj (by simp) _ _)) ((World.putObj_heap_other (by omega)).trans hk)⟩
end Go.Proofs.Ytbnflbkaogpnbaa

/- A region that is walked in the open, walked in a round of a range over a function. -/
namespace Go.Proofs.Ytbnflbkaogpnbaa
open Go.RowKit

variable {P : Program} {ops : Array Oper} {Q : Exit → Act → World → Prop}

def noDefer (o : Oper) : Bool := match o.op with | .defer _ => false | _ => true

theorem noDefer_ne {o : Oper} (h : noDefer o = true) : ∀ c, o.op ≠ .defer c := fun c e => by
  unfold noDefer at h
  rw [e] at h
  cases h

theorem wpIn_of_wp {l n : Nat} {o : Oper} (hd : noDefer o = true) {K : Act → World → Prop} {a : Act} {w : World} (h : o.wp P a w K Q) : o.wpIn (Fence.wide.inRound l) n P a w K Q := by
  refine ⟨fun _ _ => trivial, ?_⟩
  rw [Oper.semAt_eq _ _ _ (noDefer_ne hd)]
  unfold Oper.wp at h
  generalize (execOp a.eval o).run P w = r at h
  have hde : ∀ {n : Nat}, (Fence.wide.inRound l).depth.isSome = true → 1 ≤ n := fun h => by cases h
  cases r with
  | ok x w' =>
    cases x with
    | enter f args => exact ⟨hde, CallsIn.inRound l (callsIn_wide.2 h)⟩
    | row r args => exact ⟨hde, fun c cs _ => by
        obtain ⟨v, w2, hr, hs⟩ := h c cs
        exact ⟨v, w2, hr, stepsIn_wide.2 hs⟩⟩
    | round _ _ _ _ _ => exact h.elim
    | _ => exact h
  | halt h0 w' => cases h0 <;> exact h

theorem wpOpIn_of_wpOp {l n i : Nat} (hd : ops.all noDefer = true) (hQ : ¬ LetsOut Q) {K K' : Act → World → Prop} (hK : ∀ a w, K a w → K' a w) {a : Act} {w : World} (h : wpOp P ops Q i K a w) : wpOpIn (Fence.wide.inRound l) n P ops Q i K' a w := by
  unfold wpOp at h
  unfold wpOpIn
  cases ho : ops[i]? with
  | none => rw [ho] at h; exact hK _ _ h
  | some o =>
    rw [ho] at h
    have hdo : noDefer o = true := Array.all_eq_true_iff_forall_mem.1 hd o (Array.mem_of_getElem? ho)
    simp only at h ⊢
    split at h
    · rename_i hw
      rw [if_pos hw]
      rcases h with h | h
      · exact wpIn_of_wp hdo (Oper.wp_mono hK h)
      · exact absurd h.2 hQ
    · rename_i hw
      rw [if_neg hw]
      exact ⟨fun _ _ => trivial, hK _ _ h⟩

theorem wpAnyIn_of_held {l n : Nat} {md : Region.Mode} {S : World → Prop} (hd : ops.all noDefer = true) (hQ : ¬ LetsOut Q) : ∀ (fuel : Nat) (listed : Array Bool) (a : Act) (w : World), wpAnyH P md ops Q S fuel listed a w → wpAnyIn (Fence.wide.inRound l) n P md ops Q fuel listed a w
  | 0, _, _, _, h => h
  | fuel + 1, _, _, _, h => ⟨h.1, fun i hi => wpOpIn_of_wpOp hd hQ (fun a w h => wpAnyIn_of_held hd hQ fuel _ a w h.2) (h.2 i hi)⟩

/-- A region that draws its order, in a round. -/
theorem wpIn_region_held {l n id : Nat} {S : World → Prop} {a : Act} {w : World} (hm : P.follows .mixedOrders = true) (hd : ops.all noDefer = true) (hQ : ¬ LetsOut Q) (hS : S w.drew)
    (h : S w.drew → wpAnyH P .any ops Q S ops.size (Array.replicate ops.size false) a w.drew) : (Code.region id ops true).wpIn (Fence.wide.inRound l) n P Q a w :=
  wpIn_region_any hm (wpAnyIn_of_held hd hQ _ _ _ _ (h hS))

/-- What is asked of a region that is left in no other way than off its end. -/
def calmQ (Q : Exit → Act → World → Prop) : Exit → Act → World → Prop
  | .normal, a, w => Q .normal a w
  | _, _, _ => False

theorem calm_out : ¬ LetsOut (calmQ Q) := fun ⟨_, _, h⟩ => h

theorem wp_region_calm {id : Nat} {S : World → Prop} {a : Act} {w : World} (hm : P.follows .mixedOrders = true) (hS : S w.drew)
    (h : S w.drew → wpAnyH P .any ops (calmQ Q) S ops.size (Array.replicate ops.size false) a w.drew) : (Code.region id ops true).wp P Q a w :=
  wp_mono (wp_region_held_drew hm hS h) (fun e a w hq => by cases e <;> first | exact hq | exact hq.elim)

theorem wpIn_region_calm {l n id : Nat} {S : World → Prop} {a : Act} {w : World} (hm : P.follows .mixedOrders = true) (hd : ops.all noDefer = true) (hS : S w.drew)
    (h : S w.drew → wpAnyH P .any ops (calmQ Q) S ops.size (Array.replicate ops.size false) a w.drew) : (Code.region id ops true).wpIn (Fence.wide.inRound l) n P Q a w :=
  wpIn_mono (wpIn_region_held hm hd calm_out hS h) (fun e a w hq => by cases e <;> first | exact hq | exact hq.elim)

theorem wpAnyH_calm {md : Region.Mode} {S : World → Prop} {listed : Array Bool} {a : Act} {w : World} (hr : Region.ready md ops listed = []) (h : Q .normal a w) : ∀ fuel, wpAnyH P md ops (calmQ Q) S fuel listed a w :=
  wpAnyH_done hr h

theorem wpListIn_of_wpList {l n : Nat} (hQ : ¬ LetsOut Q) : ∀ (rest : List Oper), (∀ o ∈ rest, noDefer o = true) → ∀ (a : Act) (w : World), wpList P ops Q rest a w → wpListIn (Fence.wide.inRound l) n P ops Q rest a w
  | [], _, _, _, h => h
  | o :: rest, hd, a, w, h => by
    have ih := wpListIn_of_wpList (l := l) (n := n) hQ rest (fun x hx => hd x (List.mem_cons_of_mem _ hx))
    unfold wpList at h
    unfold wpListIn
    split at h
    · rename_i hw
      rw [if_pos hw]
      rcases h with h | h
      · exact wpIn_of_wp (hd o List.mem_cons_self) (Oper.wp_mono (fun a w h => ih a w h) h)
      · exact absurd h.2 hQ
    · rename_i hw
      rw [if_neg hw]
      exact ⟨fun _ _ => trivial, ih _ _ h⟩

/-- A region that draws nothing, in a round, walked in the open. -/
theorem wpIn_region_open {l n id : Nat} {a : Act} {w : World} (hd : ops.all noDefer = true) (h : ∀ K : Act → World → Prop, (∀ a w, Q .normal a w → K a w) → wpList P ops (Exit.then K (fun _ _ _ => False)) ops.toList a w) :
    (Code.region id ops false).wpIn (Fence.wide.inRound l) n P Q a w :=
  wpIn_mono (wpIn_region_list (wpListIn_of_wpList (fun ⟨_, _, h⟩ => h) ops.toList (fun o ho => Array.all_eq_true_iff_forall_mem.1 hd o (by simpa using ho)) a w (h (Q .normal) (fun _ _ h => h)))) (fun e a w hq => by cases e <;> first | exact hq | exact hq.elim)
end Go.Proofs.Ytbnflbkaogpnbaa

/- slices.Chunk of bytes: what its value promises. -/
namespace Go.Proofs.Ytbnflbkaogpnbaa
open Go.RowKit Go.Shelf

attribute [local go_sem] Oper.semAt_some

/-- The k-th chunk of 128 of a row. -/
def chunkV (b off len k : Nat) : Value := .slice (some ⟨b, off + 128 * k, none⟩) (min 128 (len - 128 * k)) (min 128 (len - 128 * k))

set_option maxRecDepth 100000 in
set_option maxHeartbeats 2000000 in
theorem chunk1_in (n : Nat) (hn : 1 ≤ n) (l Bs Bn b off len cap : Nat) (hlen : len ≤ 1000000) (hcap : len ≤ cap) (_hcm : cap ≤ 9223372036854775807) (J Jx : List Nat → World → Prop) (W : World)
    (hBs : W.cell? ⟨Bs, 0, none⟩ = some (.slice (some ⟨b, off, none⟩) len cap)) (hBn : W.cell? ⟨Bn, 0, none⟩ = some (.int .i64 128)) (hls : Bs < W.heap.size) (hln : Bn < W.heap.size)
    (hY : ∀ pre x X0 X, J pre X0 → W.heap.size ≤ X0.heap.size → Kept [] X0 X → x < (len + 127) / 128 ∧ pre = List.range x → YieldAt Fence.wide (n - 1) Try.prog l #[chunkV b off len x] X fun e Y =>
      (e = .returned (.bool true) ∧ J (pre ++ [x]) Y ∧ Stays [Bs, Bn] X Y) ∨ (e = .returned (.bool false) ∧ Jx (pre ++ [x]) Y ∧ X.heap.size ≤ Y.heap.size))
    (h0 : J [] W) :
    CallsIn Fence.wide n Try.prog 114 #[.func (.yield l) #[] #[], .pointer (some ⟨Bs, 0, none⟩), .pointer (some ⟨Bn, 0, none⟩)] W fun e Y => (∃ v, e = .returned v) ∧
      ((∃ ys, ys = List.range ((len + 127) / 128) ∧ J ys Y) ∨ (∃ pre, (∃ k, k ≤ (len + 127) / 128 ∧ pre = List.range k) ∧ Jx pre Y)) := by
  refine callsIn_of_wp Try.func114 rfl trivial ?_ rfl
  simp only [Try.ntmps114, List.size_toArray, List.length_cons, List.length_nil, Nat.reduceAdd, Nat.reduceSub, Array.replicate_succ, Array.replicate_zero, List.push_toArray, List.append_toArray, List.nil_append, List.cons_append]
  gi_wp2
  gi_loopw [4] (fun i wr => ∃ k : Nat, k ≤ (len + 127) / 128 ∧ i = .int .i64 ((128 * k : Nat) : Int) ∧ J (List.range k) wr ∧ Stays [Bs, Bn] W wr)
    (fun i _ => len + 128 - (intOf i).toNat)
  case atStart => exact ⟨0, Nat.zero_le _, rfl, h0, Stays.refl _ _⟩
  case round =>
    obtain ⟨k, hk, rfl, hJs, hst⟩ := hrel
    have c1 := (World.cell?_of_block (a := ⟨Bs, 0, none⟩) (hst.same Bs (by simp) hls)).trans hBs
    have c2 := (World.cell?_of_block (a := ⟨Bn, 0, none⟩) (hst.same Bn (by simp) hln)).trans hBn
    by_cases hlt : k < (len + 127) / 128
    · have i1 : ((128 * k : Nat) : Int) < (len : Int) := by omega
      obtain ⟨fn, tmps, assign, body, hy, hR⟩ := hY (List.range k) k wr wr.drew hJs hst.size (Kept.drew [] wr) ⟨hlt, rfl⟩
      dsimp only [chunkV] at hy
      have hmin : min (128 : Int) ((len - 128 * k : Nat) : Int) = ((min 128 (len - 128 * k) : Nat) : Int) := by omega
      have hq : min 128 (len - 128 * k) ≤ 128 ∧ 128 * k + min 128 (len - 128 * k) ≤ len ∧ 128 * k ≤ len ∧ 0 < min 128 (len - 128 * k) := by omega
      have hq0 : ¬ min 128 (len - 128 * k) = 0 := by omega
      have hrs : List.range (k + 1) = List.range k ++ [k] := List.range_succ
      rw [← hrs] at hR
      have c1' : wr.drew.cell? ⟨Bs, 0, none⟩ = some (.slice (some ⟨b, off, none⟩) len cap) := c1
      have c2' : wr.drew.cell? ⟨Bn, 0, none⟩ = some (.int .i64 128) := c2
      gi_wp2
      refine wpIn_wide.2 ?_
      go_region
      clear hmin
      generalize min 128 (len - 128 * k) = q at *
      gi_wp2
      refine hR.mono ?_
      clear hR hy
      rintro e W3 (⟨rfl, hJ3, hk3⟩ | ⟨rfl, hJx3, hsz3⟩)
      · have c3 := (World.cell?_of_block (a := ⟨Bn, 0, none⟩) (hk3.same Bn (by simp) (Nat.lt_of_lt_of_le hln hst.size))).trans c2'
        gi_wp2
        go_roundw
        case rel => exact ⟨k + 1, by omega, by go_num, hJ3, hst.trans ⟨hk3.size, hk3.same⟩⟩
        case measure => simp [intOf]; omega
      · gi_wp2
        refine bodyPost_ret (results_none rfl _ _ _) rfl ?_
        exact ⟨⟨_, rfl⟩, .inr ⟨_, ⟨k + 1, by omega, rfl⟩, hJx3⟩⟩
    · have i1 : ¬ ((128 * k : Nat) : Int) < (len : Int) := by omega
      obtain rfl : k = (len + 127) / 128 := by omega
      gi_wp2
      go_end0
      exact ⟨⟨_, rfl⟩, .inl hJs⟩

/-- slices.Chunk(row, 128): its value. -/
theorem chunk_any (w : World) (A : Option Addr) (len cap : Nat) : Calls Try.prog 87 #[.slice A len cap, .int .i64 128] w fun e w' =>
    e = .returned (.func (.func 114) #[] #[.pointer (some ⟨w.heap.size, 0, none⟩), .pointer (some ⟨w.heap.size + 1, 0, none⟩)]) ∧ w' = (w.alloc (.cells #[.slice A len cap] 34)).alloc (.cells #[.int .i64 128] 3) := by
  have hb : ((w.alloc (.cells #[.slice A len cap] 34)).alloc (.cells #[.int .i64 128] 3)).cell? ⟨w.heap.size + 1, 0, none⟩ = some (.int .i64 128) := by
    have h := heap_alloc_new (w.alloc (.cells #[.slice A len cap] 34)) (.cells #[.int .i64 128] 3)
    simp only [World.size_alloc] at h
    rw [blk_cell h]; rfl
  go_enter Try.func87, Try.ntmps87
  go_wp2
  go_ret
  exact ⟨rfl, rfl⟩

/-- What Chunk's value promises. -/
theorem chunk_seq (n : Nat) (hn : 1 ≤ n) (Bs Bn b off len cap : Nat) (hlen : len ≤ 1000000) (hcap : len ≤ cap) (hcm : cap ≤ 9223372036854775807) (w : World)
    (hBs : w.cell? ⟨Bs, 0, none⟩ = some (.slice (some ⟨b, off, none⟩) len cap)) (hBn : w.cell? ⟨Bn, 0, none⟩ = some (.int .i64 128)) (hls : Bs < w.heap.size) (hln : Bn < w.heap.size) :
    SeqAt Fence.wide n Try.prog 114 #[.pointer (some ⟨Bs, 0, none⟩), .pointer (some ⟨Bn, 0, none⟩)] (fun k : Nat => #[chunkV b off len k]) [] [Bs, Bn] (fun pre _ k _ => k < (len + 127) / 128 ∧ pre = List.range k)
      (fun ys => ys = List.range ((len + 127) / 128)) (fun pre => ∃ k, k ≤ (len + 127) / 128 ∧ pre = List.range k) w := fun l J Jx W hW hJ hJx hY h0 => by
  refine (chunk1_in n hn l Bs Bn b off len cap hlen hcap hcm J Jx W ((hW.cell (p := ⟨Bs, 0, none⟩) hls (by simp)).trans hBs) ((hW.cell (p := ⟨Bn, 0, none⟩) hln (by simp)).trans hBn) (Nat.lt_of_lt_of_le hls hW.size) (Nat.lt_of_lt_of_le hln hW.size) hY h0).mono ?_
  rintro e Y ⟨he, h⟩
  exact ⟨he, h⟩
end Go.Proofs.Ytbnflbkaogpnbaa

/- A strip in memory; Size, End, Left. -/
namespace Go.Proofs.Ytbnflbkaogpnbaa
open Go.RowKit

/-- In w, at block z, is the strip s, on the device at a; its blocks are among sp. -/
structure StAt (w : World) (z a : Nat) (sp : List Nat) (s : St) : Prop where
  head : ∃ A c, w.heap[z]? = some (.cells #[.pointer (some ⟨a, 0, none⟩), .int .i64 s.first, .int .i64 s.many, .int .i64 s.fin, .slice A s.last.length c] 78 (0, 0)) ∧ SlAt w A s.last.length c (u8vs s.last) ∧ (A = none → c = 0) ∧ ∀ p, A = some p → p.block ∈ sp ∧ p.block ≠ z
  zin : z ∈ sp
  lt : ∀ j ∈ sp, j < w.heap.size

theorem StAt.kept {w w' : World} {z a : Nat} {sp : List Nat} {s : St} {F : List Nat} (h : StAt w z a sp s) (hk : Kept F w w') (hF : ∀ j ∈ sp, j ∉ F) : StAt w' z a sp s := by
  obtain ⟨A, c, h1, h2, h3, h4⟩ := h.head
  exact ⟨⟨A, c, (hk.block z (h.lt z h.zin) (hF z h.zin)).trans h1, h2.kept hk (fun p e => hF _ (h4 p e).1), h3, h4⟩, h.zin, fun j hj => Nat.lt_of_lt_of_le (h.lt j hj) hk.size⟩

theorem StAt.cells {w : World} {z a : Nat} {sp : List Nat} {s : St} (h : StAt w z a sp s) :
    w.cell? ⟨z, 0, none⟩ = some (.pointer (some ⟨a, 0, none⟩)) ∧ w.cell? ⟨z, 1, none⟩ = some (.int .i64 s.first) ∧ w.cell? ⟨z, 2, none⟩ = some (.int .i64 s.many) ∧ w.cell? ⟨z, 3, none⟩ = some (.int .i64 s.fin) ∧ ∀ i, w.frozen? ⟨z, i, none⟩ = false := by
  obtain ⟨A, c, h1, _⟩ := h.head
  exact ⟨blk_cell h1 0, blk_cell h1 1, blk_cell h1 2, blk_cell h1 3, fun i => blk_frozen h1 i⟩

def stripSize (n : Int) : Int := if n < 0 ∨ 16384 < n then 0 else n + 7

set_option maxHeartbeats 400000 in
theorem stripSize_any (n : Int) (w : World) : Calls Try.prog 43 #[.int .i64 n] w fun e w' => e = .returned (.int .i64 (stripSize n)) ∧ w = w' := by
  unfold stripSize
  by_cases h1 : n < 0
  · rw [if_pos (.inl h1)]
    go_enter Try.func43, Try.ntmps43
    go_wp2
    go_ret
    exact ⟨rfl, rfl⟩
  · by_cases h2 : 16384 < n
    · rw [if_pos (.inr h2)]
      go_enter Try.func43, Try.ntmps43
      go_wp2
      go_ret
      exact ⟨rfl, rfl⟩
    · rw [if_neg (by omega)]
      go_enter Try.func43, Try.ntmps43
      go_wp2
      go_ret
      exact ⟨rfl, rfl⟩

set_option maxHeartbeats 400000 in
theorem stripEnd_any {w : World} {z a : Nat} {sp : List Nat} {s : St} (h : StAt w z a sp s) : Calls Try.prog 48 #[.pointer (some ⟨z, 0, none⟩)] w fun e w' => e = .returned (.int .i64 s.fin) ∧ w = w' := by
  obtain ⟨c0, c1, c2, c3, cf⟩ := h.cells
  clear h
  go_enter Try.func48, Try.ntmps48
  go_wp2
  go_ret
  exact ⟨rfl, rfl⟩

/-- What Left does. -/
def LeftPost (w : World) (n : Int) (e : Ending) (w' : World) : Prop := e = .returned (.int .i64 n) ∧ ∃ q, w' = w.drewN q

set_option maxHeartbeats 400000 in
theorem stripLeft_any {w : World} {z a : Nat} {sp : List Nat} {s : St} (h : StAt w z a sp s) (hm : s.many ≤ 10000) (hf : s.fin ≤ 128 * s.many) : Calls Try.prog 50 #[.pointer (some ⟨z, 0, none⟩)] w (LeftPost w (128 * s.many - s.fin)) := by
  obtain ⟨c0, c1, c2, c3, cf⟩ := h.cells
  clear h
  go_enter Try.func50, Try.ntmps50
  go_wp2
  go_quiet (fail)
  go_wp2
  go_ret
  exact ⟨rfl, nq, rfl⟩
end Go.Proofs.Ytbnflbkaogpnbaa

/- A strip's Append: its frame. -/
namespace Go.Proofs.Ytbnflbkaogpnbaa
open Go.RowKit Go.Shelf

theorem results_cell_int {P : Program} {fn : Func} {p : Tmp} {ty : TypeId} {k : IntKind} (h : fn.results = #[.cell p ty]) (tmps : Array Value) (w : World) (b : Nat) (v : Value)
    (hp : tmps.getD p undef = .pointer (some ⟨b, 0, none⟩)) (hc : w.cell? ⟨b, 0, none⟩ = some v) (hu : P.underlying ty = some (.int k)) : (results fn tmps).run P w = .ok v w := by
  have hp' : tmps[p]?.getD undef = .pointer (some ⟨b, 0, none⟩) := by simpa using hp
  have hg : ∀ w, (isAgg ty).run P w = .ok false w := fun w => by simp [isAgg, Sem.run_bind, run_underlying hu, Result.andThen]
  simp [results, h, hp', asAddr, loadVar, Sem.run_bind, hg, Result.andThen, hc]

/-- What an Append does. -/
def AppPost (w : World) (z a : Nat) (fp sp : List Nat) (r : St × Dev × Int) (e : Ending) (w' : World) : Prop :=
  e = .returned (.int .i64 r.2.2) ∧ ∃ fp' sp', Dv w' a fp' r.2.1 ∧ StAt w' z a sp' r.1 ∧ Kept (fp ++ sp) w w' ∧ (∀ j ∈ fp', j ∈ fp ∨ w.heap.size ≤ j) ∧ (∀ j ∈ sp', j ∈ sp ∨ w.heap.size ≤ j) ∧ ∀ j ∈ sp', j ∉ fp'

theorem app_out {w W' : World} {z a : Nat} {fp sp fp' sp' : List Nat} {s' : St} {d' : Dev} {n : Int} (hD : Dv W' a fp' d') (hS : StAt W' z a sp' s') (hk : Kept (fp ++ sp) w W') (hf : ∀ j ∈ fp', j ∈ fp ∨ w.heap.size ≤ j) (hp : ∀ j ∈ sp', j ∈ sp ∨ w.heap.size ≤ j)
    (hn : ∀ j ∈ sp', j ∉ fp') {rb : Nat} (hrb : w.heap.size ≤ rb) (hrf : rb ∉ fp') (hrs : rb ∉ sp') (v : Value) : AppPost w z a fp sp (s', d', n) (.returned (.int .i64 n)) (W'.setCell ⟨rb, 0, none⟩ v) := by
  have hk2 : Kept [rb] W' (W'.setCell ⟨rb, 0, none⟩ v) := Kept.setCell (by simp) _
  exact ⟨rfl, fp', sp', hD.kept hk2 (fun j hj hm => hrf (by simp at hm; exact hm ▸ hj)), hS.kept hk2 (fun j hj hm => hrs (by simp at hm; exact hm ▸ hj)), hk.trans' hk2 (fun i hi => by simp at hi; subst hi; exact .inr hrb), hf, hp, hn⟩


/-- The frame of an Append: its device, its strip, its two boxes, what is to be appended. -/
structure ApAt (w W : World) (z a : Nat) (AL : Option Addr) (cL : Nat) (fp : List Nat) (s : St) (d : Dev) (A : Option Addr) (n c : Nat) (b : List UInt8) : Prop where
  dv : Dv W a fp d
  zl : W.heap[z]? = some (.cells #[.pointer (some ⟨a, 0, none⟩), .int .i64 s.first, .int .i64 s.many, .int .i64 s.fin, .slice AL s.last.length cL] 78 (0, 0))
  sl : SlAt W AL s.last.length cL (u8vs s.last)
  bx : W.heap[w.heap.size]? = some (.cells #[.pointer (some ⟨z, 0, none⟩)] 65 (0, 0))
  rt : W.heap[w.heap.size + 1]? = some (.cells #[.int .i64 0] 25 (0, 0))
  bs : SlAt W A n c (u8vs b)
  kept : Kept [] w W

theorem ApAt.next {w W W' : World} {z a : Nat} {AL : Option Addr} {cL : Nat} {fp : List Nat} {s : St} {d : Dev} {A : Option Addr} {n c : Nat} {b : List UInt8} (h : ApAt w W z a AL cL fp s d A n c b) (hk : Kept [] W W') : ApAt w W' z a AL cL fp s d A n c b :=
  ⟨h.dv.new_kept hk, (hk.block z (World.lt_of_heap h.zl) (by simp)).trans h.zl, h.sl.kept hk (by simp), (hk.block _ (World.lt_of_heap h.bx) (by simp)).trans h.bx, (hk.block _ (World.lt_of_heap h.rt) (by simp)).trans h.rt, h.bs.kept hk (by simp), h.kept.trans hk⟩

/-- The cells that the frame's loads read. -/
def ApS (w : World) (z a : Nat) (AL : Option Addr) (cL : Nat) (s : St) (W : World) : Prop :=
  W.cell? ⟨w.heap.size, 0, none⟩ = some (.pointer (some ⟨z, 0, none⟩)) ∧ W.cell? ⟨z, 0, none⟩ = some (.pointer (some ⟨a, 0, none⟩)) ∧ W.cell? ⟨z, 1, none⟩ = some (.int .i64 s.first) ∧ W.cell? ⟨z, 2, none⟩ = some (.int .i64 s.many) ∧
    W.cell? ⟨z, 3, none⟩ = some (.int .i64 s.fin) ∧ W.cell? ⟨z, 4, none⟩ = some (.slice AL s.last.length cL)

theorem ApAt.S {w W : World} {z a : Nat} {AL : Option Addr} {cL : Nat} {fp : List Nat} {s : St} {d : Dev} {A : Option Addr} {n c : Nat} {b : List UInt8} (h : ApAt w W z a AL cL fp s d A n c b) : ApS w z a AL cL s W :=
  ⟨blk_cell h.bx 0, blk_cell h.zl 0, blk_cell h.zl 1, blk_cell h.zl 2, blk_cell h.zl 3, blk_cell h.zl 4⟩

/-- Behind the sum of all: the row of what was there and the record, and the box of the sector's number. -/
def ApMid (w : World) (z a : Nat) (AL : Option Addr) (cL : Nat) (fp : List Nat) (s : St) (d : Dev) (A : Option Addr) (n c : Nat) (b : List UInt8) (v5 v6 : Value) (wx : World) : Prop :=
  ∃ bC oC cC at_, v5 = .slice (some ⟨bC, oC, none⟩) (s.last.length + (n + 7)) cC ∧ v6 = .pointer (some ⟨at_, 0, none⟩) ∧ ApAt w wx z a AL cL fp s d A n c b ∧ wx.heap[at_]? = some (.cells #[.int .i64 (s.fin / 128 : Nat)] 3 (0, 0)) ∧
    w.heap.size + 2 ≤ at_ ∧ SlAt wx (some ⟨bC, oC, none⟩) (s.last.length + (n + 7)) cC (u8vs (s.last ++ recB b)) ∧ w.heap.size + 2 ≤ bC ∧ bC ≠ at_

theorem writes_snoc : ∀ (cs : List Blk) (d : Dev) (q : Int) (k : Nat) (c : Blk) (d' : Dev), cs[k]? = some c → d.writes q (cs.take k) = (d', 0) → d.writes q (cs.take (k + 1)) = d'.write (q + k) c := by
  intro cs
  induction cs with
  | nil => intro d q k c d' h _; simp at h
  | cons x cs ih =>
    intro d q k c d' h hw
    cases k with
    | zero =>
      simp only [List.getElem?_cons_zero, Option.some.injEq] at h
      subst h
      simp only [List.take_zero, Dev.writes, Prod.mk.injEq, and_true] at hw
      subst hw
      simp only [Nat.zero_add, List.take_succ_cons, List.take_zero, Dev.writes, Int.natCast_zero, Int.add_zero]
      split
      · rename_i h0
        rw [← h0]
      · rfl
    | succ k =>
      simp only [List.getElem?_cons_succ] at h
      simp only [List.take_succ_cons, Dev.writes] at hw ⊢
      split at hw
      · rename_i h0
        rw [if_pos h0, ih _ _ _ _ _ h hw]
        congr 1
        push_cast
        omega
      · rename_i h0
        rw [hw] at h0
        exact absurd rfl h0

theorem writes_stop : ∀ (cs : List Blk) (d : Dev) (q : Int) (k : Nat) (r : Dev × Int), d.writes q (cs.take k) = r → r.2 ≠ 0 → d.writes q cs = r := by
  intro cs
  induction cs with
  | nil => intro d q k r h _; simpa using h
  | cons x cs ih =>
    intro d q k r h hr
    cases k with
    | zero =>
      simp only [List.take_zero, Dev.writes] at h
      rw [← h] at hr
      exact absurd rfl hr
    | succ k =>
      simp only [List.take_succ_cons, Dev.writes] at h ⊢
      split at h
      · rename_i h0
        rw [if_pos h0]
        exact ih _ _ _ _ h hr
      · rename_i h0
        rw [if_neg h0]
        exact h


theorem row_nil' {w : World} {base : Nat} {t : TypeId} {A : Option Addr} {n c : Nat} {xs : List Value} (h : w.ownsRow base t 1 (.slice A n c) n xs) (e : A = none) : c = 0 := by
  subst e
  rcases h.2 with ⟨e, _⟩ | ⟨g, cap, cur, e, _⟩
  · injection e
  · cases e

theorem SlAt.lt' {w : World} {A : Option Addr} {n c : Nat} {xs : List Value} (h : SlAt w A n c xs) (hn : 0 < n) {p : Addr} (e : A = some p) : p.block < w.heap.size := by
  obtain ⟨b, o, e2, hb, _⟩ := h.cells hn
  rw [e] at e2
  cases e2
  exact hb

/-- Two rows put together. -/
theorem concat_two (w : World) (g : Nat) {t : TypeId} {fz : Nat × Nat} (A1 A2 : Option Addr) (n1 c1 n2 c2 : Nat) (xs ys : List UInt8) (hg : w.heap[g]? = some (.cells #[.slice A1 n1 c1, .slice A2 n2 c2] t fz)) (h1 : SlAt w A1 n1 c1 (u8vs xs)) (h10 : A1 = none → c1 = 0)
    (h2 : SlAt w A2 n2 c2 (u8vs ys)) (h20 : A2 = none → c2 = 0) (hpos : 0 < n1 + n2) (hle : n1 + n2 ≤ 100000000) : Calls Try.prog 85 #[.slice (some ⟨g, 0, none⟩) 2 2] w (ClonePost w 5 (n1 + n2) (u8vs (xs ++ ys))) := by
  have h := concat_any w g 0 2 2 [⟨A1, n1, c1, xs⟩, ⟨A2, n2, c2, ys⟩] rfl (World.lt_of_heap hg) (by omega) (by omega) (fun i p hi => by
      have hl := (List.getElem?_eq_some_iff.1 hi).1
      simp only [List.length_cons, List.length_nil] at hl
      have : i = 0 ∨ i = 1 := by omega
      rcases this with rfl | rfl
      · cases hi; rw [blk_cell hg]; rfl
      · cases hi; rw [blk_cell hg]; rfl) (fun p hp => by
      simp only [List.mem_cons, List.not_mem_nil, or_false] at hp
      rcases hp with rfl | rfl
      · exact ⟨h1, h10⟩
      · exact ⟨h2, h20⟩) (by simp only [total]; omega) (by simp only [total]; omega)
  have e : total [⟨A1, n1, c1, xs⟩, ⟨A2, n2, c2, ys⟩] = n1 + n2 := by simp [total]
  have e2 : allB [⟨A1, n1, c1, xs⟩, ⟨A2, n2, c2, ys⟩] = xs ++ ys := by simp [allB]
  rw [e, e2] at h
  exact h

/-- What of an Append's frame lay there ahead of it. -/
structure ApOld (w : World) (z : Nat) (AL : Option Addr) (fp : List Nat) (A : Option Addr) (n : Nat) : Prop where
  z : z < w.heap.size
  fp : ∀ j ∈ fp, j < w.heap.size
  al : ∀ p, AL = some p → p.block < w.heap.size
  a : ∀ p, A = some p → 0 < n → p.block < w.heap.size

theorem ApAt.put {w W : World} {z a : Nat} {AL : Option Addr} {cL : Nat} {fp : List Nat} {s : St} {d : Dev} {A : Option Addr} {n c : Nat} {b : List UInt8} (h : ApAt w W z a AL cL fp s d A n c b) (ho : ApOld w z AL fp A n) {q : Nat} (hq : w.heap.size + 2 ≤ q) (v : Value) :
    ApAt w (W.setCell ⟨q, 0, none⟩ v) z a AL cL fp s d A n c b := by
  have hk : Kept [q] W (W.setCell ⟨q, 0, none⟩ v) := Kept.setCell (by simp) _
  have hz := ho.z
  exact ⟨h.dv.kept hk (fun j hj hm => by simp at hm; have := ho.fp j hj; omega), (hk.block z (World.lt_of_heap h.zl) (by simp; omega)).trans h.zl, h.sl.kept hk (fun p e hm => by simp at hm; have := ho.al p e; omega), (hk.block _ (World.lt_of_heap h.bx) (by simp; omega)).trans h.bx,
    (hk.block _ (World.lt_of_heap h.rt) (by simp; omega)).trans h.rt, h.bs.keptP hk (fun p e hn hm => by simp at hm; have := ho.a p e hn; omega), h.kept.trans' hk (by simp; omega)⟩

/-- What is fixed while an Append writes. -/
structure ApCtx (w W8 : World) (z : Nat) (AL : Option Addr) (fp : List Nat) (at_ bC : Nat) : Prop where
  size : w.heap.size + 2 ≤ W8.heap.size
  hz : z < w.heap.size
  hfp : ∀ j ∈ fp, j < w.heap.size
  hzfp : z ∉ fp
  hal : ∀ p, AL = some p → p.block < w.heap.size ∧ p.block ∉ fp ∧ p.block ≠ z
  at0 : w.heap.size + 2 ≤ at_
  at1 : at_ < W8.heap.size
  b0 : w.heap.size + 2 ≤ bC
  b1 : bC < W8.heap.size
  ne : bC ≠ at_

/-- Behind some sectors' writes. -/
structure ApLoop (w W8 : World) (z a : Nat) (AL : Option Addr) (cL : Nat) (fp : List Nat) (s : St) (d : Dev) (bC oC cC L at_ : Nat) (all : List UInt8) (k : Nat) (d' : Dev) (fp' : List Nat) (r v : Int) (X : World) : Prop where
  dv : Dv X a fp' d'
  new : ∀ j ∈ fp', j ∈ fp ∨ W8.heap.size + 2 ≤ j
  zl : X.heap[z]? = some (.cells #[.pointer (some ⟨a, 0, none⟩), .int .i64 s.first, .int .i64 s.many, .int .i64 s.fin, .slice AL s.last.length cL] 78 (0, 0))
  sl : SlAt X AL s.last.length cL (u8vs s.last)
  bx : X.heap[w.heap.size]? = some (.cells #[.pointer (some ⟨z, 0, none⟩)] 65 (0, 0))
  rt : X.heap[w.heap.size + 1]? = some (.cells #[.int .i64 r] 25 (0, 0))
  at_ : X.heap[at_]? = some (.cells #[.int .i64 v] 3 (0, 0))
  sb : SlAt X (some ⟨bC, oC, none⟩) L cC (u8vs all)
  kept : Kept fp w X
  works : d'.works ≤ d.works + k

section
variable {w W8 : World} {z a : Nat} {AL : Option Addr} {cL : Nat} {fp : List Nat} {s : St} {d : Dev} {bC oC cC L at_ : Nat} {all : List UInt8} {k : Nat} {d' : Dev} {fp' : List Nat} {r v : Int} {X Y : World}

theorem ApLoop.next (hc : ApCtx w W8 z AL fp at_ bC) (h : ApLoop w W8 z a AL cL fp s d bC oC cC L at_ all k d' fp' r v X) {F : List Nat} (hk : Kept F X Y) (hF : ∀ j ∈ F, j = W8.heap.size ∨ j = W8.heap.size + 1) : ApLoop w W8 z a AL cL fp s d bC oC cC L at_ all k d' fp' r v Y := by
  have h1 := hc.size; have h2 := hc.hz; have h3 := hc.at1; have h4 := hc.b1
  have key : ∀ j, j < W8.heap.size → j ∉ F := fun j hj hm => by rcases hF j hm with e | e <;> omega
  refine ⟨h.dv.kept hk (fun j hj hm => ?_), h.new, (hk.block z (World.lt_of_heap h.zl) (key z (by omega))).trans h.zl, h.sl.kept hk (fun p e => key _ (by have := (hc.hal p e).1; omega)), (hk.block _ (World.lt_of_heap h.bx) (key _ (by omega))).trans h.bx,
    (hk.block _ (World.lt_of_heap h.rt) (key _ (by omega))).trans h.rt, (hk.block _ (World.lt_of_heap h.at_) (key _ h3)).trans h.at_, h.sb.kept hk (fun p e => by cases e; exact key _ h4), h.kept.trans' hk (fun j hj => .inr ?_), h.works⟩
  · rcases h.new j hj with e | e
    · exact key j (by have := hc.hfp j e; omega) hm
    · rcases hF j hm with e2 | e2 <;> omega
  · rcases hF j hj with e | e <;> omega

/-- A write: the device's blocks turn. -/
theorem ApLoop.wrote (hc : ApCtx w W8 z AL fp at_ bC) (h : ApLoop w W8 z a AL cL fp s d bC oC cC L at_ all k d' fp' r v X) {d2 : Dev} {f2 : List Nat} (hD : Dv Y a f2 d2) (hk : Kept fp' X Y) (hn : ∀ j ∈ f2, j ∈ fp' ∨ X.heap.size ≤ j) (hX : W8.heap.size + 2 ≤ X.heap.size) (hw : d2.works ≤ d'.works + 1) :
    ApLoop w W8 z a AL cL fp s d bC oC cC L at_ all (k + 1) d2 f2 r v Y := by
  have h1 := hc.size; have h2 := hc.hz; have h3 := hc.at1; have h4 := hc.b1; have h5 := hc.at0; have h6 := hc.b0
  have key : ∀ j, j < W8.heap.size → j ∉ fp → j ∉ fp' := fun j hj hn hm => by rcases h.new j hm with e | e
                                                                              · exact hn e
                                                                              · omega
  have old : ∀ j, w.heap.size ≤ j → j ∉ fp := fun j hj hm => by have := hc.hfp j hm; omega
  refine ⟨hD, fun j hj => ?_, (hk.block z (World.lt_of_heap h.zl) (key z (by omega) hc.hzfp)).trans h.zl, h.sl.kept hk (fun p e => key _ (by have := (hc.hal p e).1; omega) (hc.hal p e).2.1), (hk.block _ (World.lt_of_heap h.bx) (key _ (by omega) (old _ (by omega)))).trans h.bx,
    (hk.block _ (World.lt_of_heap h.rt) (key _ (by omega) (old _ (by omega)))).trans h.rt, (hk.block _ (World.lt_of_heap h.at_) (key _ h3 (old _ (by omega)))).trans h.at_, h.sb.kept hk (fun p e => by cases e; exact key _ h4 (old _ (by show w.heap.size ≤ bC; omega))), h.kept.trans' hk (fun j hj => ?_), by have := h.works; omega⟩
  · rcases hn j hj with e | e
    · exact h.new j e
    · exact .inr (by omega)
  · rcases h.new j hj with e | e
    · exact .inl e
    · exact .inr (by omega)

/-- The sector's number, and the answer, are written. -/
theorem ApLoop.putAt (hc : ApCtx w W8 z AL fp at_ bC) (h : ApLoop w W8 z a AL cL fp s d bC oC cC L at_ all k d' fp' r v X) (v2 : Int) : ApLoop w W8 z a AL cL fp s d bC oC cC L at_ all k d' fp' r v2 (X.setCell ⟨at_, 0, none⟩ (.int .i64 v2)) := by
  have h1 := hc.size; have h2 := hc.hz; have h3 := hc.at1; have h4 := hc.b1; have h5 := hc.at0; have h6 := hc.b0; have h7 := hc.ne
  have hk : Kept [at_] X (X.setCell ⟨at_, 0, none⟩ (.int .i64 v2)) := Kept.setCell (by simp) _
  refine ⟨h.dv.kept hk (fun j hj hm => ?_), h.new, (hk.block z (World.lt_of_heap h.zl) (by simp; omega)).trans h.zl, h.sl.kept hk (fun p e hm => by simp at hm; have := (hc.hal p e).1; omega), (hk.block _ (World.lt_of_heap h.bx) (by simp; omega)).trans h.bx,
    (hk.block _ (World.lt_of_heap h.rt) (by simp; omega)).trans h.rt, heap_set h.at_ 0 _, h.sb.kept hk (fun p e => by cases e; simpa using h7), h.kept.trans' hk (by simp; omega), h.works⟩
  simp at hm
  subst hm
  rcases h.new _ hj with e | e
  · have := hc.hfp _ e; omega
  · omega

theorem ApLoop.putRt (hc : ApCtx w W8 z AL fp at_ bC) (h : ApLoop w W8 z a AL cL fp s d bC oC cC L at_ all k d' fp' r v X) (r2 : Int) : ApLoop w W8 z a AL cL fp s d bC oC cC L at_ all k d' fp' r2 v (X.setCell ⟨w.heap.size + 1, 0, none⟩ (.int .i64 r2)) := by
  have h1 := hc.size; have h2 := hc.hz; have h3 := hc.at1; have h4 := hc.b1; have h5 := hc.at0; have h6 := hc.b0; have h7 := hc.ne
  have hk : Kept [w.heap.size + 1] X (X.setCell ⟨w.heap.size + 1, 0, none⟩ (.int .i64 r2)) := Kept.setCell (by simp) _
  refine ⟨h.dv.kept hk (fun j hj hm => ?_), h.new, (hk.block z (World.lt_of_heap h.zl) (by simp; omega)).trans h.zl, h.sl.kept hk (fun p e hm => by simp at hm; have := (hc.hal p e).1; omega), (hk.block _ (World.lt_of_heap h.bx) (by simp)).trans h.bx,
    heap_set h.rt 0 _, (hk.block _ (World.lt_of_heap h.at_) (by simp; omega)).trans h.at_, h.sb.kept hk (fun p e => by cases e; simp; omega), h.kept.trans' hk (by simp), h.works⟩
  simp at hm
  subst hm
  rcases h.new _ hj with e | e
  · have := hc.hfp _ e; omega
  · omega
end

/-- The k-th sector of a row. -/
def chunkAt (all : List UInt8) (k : Nat) : Blk := pad ((all.drop (128 * k)).take 128)

theorem chunks_range (all : List UInt8) : (List.range ((all.length + 127) / 128)).map (chunkAt all) = (chunks all).map pad := by
  unfold chunks chunkAt
  rw [List.map_map]
  rfl

theorem writes_append : ∀ (l : List Blk) (d : Dev) (q : Int) (c : Blk) (d' : Dev), d.writes q l = (d', 0) → d.writes q (l ++ [c]) = d'.write (q + l.length) c := by
  intro l d q c d' h
  have h1 := writes_snoc (l ++ [c]) d q l.length c d' (by simp) (by rw [List.take_left]; exact h)
  rw [List.take_of_length_le (by simp)] at h1
  exact h1

theorem zero_cells128 : Try.zeroCells107 = (u8vs zeros).toArray := by kernel_rfl

/-- 'copy(one[:], x)'. -/
theorem copied (X : World) {b o n c : Nat} {xs : List UInt8} (h : SlAt X (some ⟨b, o, none⟩) n c (u8vs xs)) (hn : n ≤ 128) : ∃ W2, (∀ ty cap, (Builtin.copy_ #[34, 34] ty #[.slice (some ⟨X.heap.size, 0, none⟩) 128 128, .slice (some ⟨b, o, none⟩) n cap]).run Try.prog (X.alloc (.cells Try.zeroCells107 107)) = .ok (goInt n) W2) ∧
    W2.heap[X.heap.size]? = some (.cells (u8vs (pad xs)).toArray 107 (0, 0)) ∧ Kept [] X W2 := by
  have hl : xs.length = n := by simpa [u8vs] using h.len
  have hg := heap_alloc_new X (.cells Try.zeroCells107 107)
  have hk := Kept.alloc [] X (.cells Try.zeroCells107 107)
  have hs := h.kept hk (by simp)
  rw [zero_cells128] at hg hk hs ⊢
  obtain ⟨j0, hj0, ju0, ju1, ju2⟩ := info_parts info_u8
  refine ⟨(X.alloc (.cells (u8vs zeros).toArray 107)).setRow X.heap.size ((u8vs zeros).toArray.toList.take 0 ++ u8vs xs ++ (u8vs zeros).toArray.toList.drop (0 + n)).toArray, fun ty cap => ?_, ?_, ?_⟩
  · have hr := run_copy_row (P := Try.prog) (X.alloc (.cells (u8vs zeros).toArray 107)) 34 34 ty 5 X.heap.size 0 128 128 ⟨b, o, none⟩ n cap (u8vs zeros).toArray 107 (u8vs xs) Try.underlying34 (by rw [hj0]; simp [ju1]) hg (by simp [u8vs, hl, Nat.min_eq_left hn]) hs.news (by simp [u8vs, hl, length_zeros]; omega) (one_u8s xs)
    have e : (u8vs xs).length = n := by simp [u8vs, hl]
    rw [e] at hr
    exact hr
  · have e : ((u8vs zeros).toArray.toList.take 0 ++ u8vs xs ++ (u8vs zeros).toArray.toList.drop (0 + n)) = u8vs (pad xs) := by
      simp only [List.take_zero, List.nil_append, Nat.zero_add]
      unfold pad u8vs zeros
      rw [List.map_append, hl, List.map_replicate, List.map_replicate, List.drop_replicate]
    rw [setRow_heap _ _ _ _ _ _ hg, e]
  · have h2 : Kept [X.heap.size] (X.alloc (.cells (u8vs zeros).toArray 107)) ((X.alloc (.cells (u8vs zeros).toArray 107)).setRow X.heap.size ((u8vs zeros).toArray.toList.take 0 ++ u8vs xs ++ (u8vs zeros).toArray.toList.drop (0 + n)).toArray) :=
      ⟨rfl, rfl, rfl, by simp [World.setRow], fun k _ hk => setRow_other _ _ k _ (fun e => hk (by simp [e]))⟩
    exact hk.trans' h2 (by simp)

/-- Between two rounds. -/
def ApI (w W8 : World) (z a : Nat) (AL : Option Addr) (cL : Nat) (fp : List Nat) (s : St) (d : Dev) (bC oC cC L at_ : Nat) (all : List UInt8) (pre : List Nat) (X : World) : Prop :=
  ∃ d' fp', d.writes (s.first + s.fin / 128 : Nat) (pre.map (chunkAt all)) = (d', 0) ∧ ApLoop w W8 z a AL cL fp s d bC oC cC L at_ all pre.length d' fp' 0 ((s.fin / 128 + pre.length : Nat) : Int) X
/-- A round has answered. -/
def ApIx (w W8 : World) (z a : Nat) (AL : Option Addr) (cL : Nat) (fp : List Nat) (s : St) (d : Dev) (bC oC cC L at_ : Nat) (all : List UInt8) (c : Code) (pre : List Nat) (X : World) : Prop :=
  c = .ret ∧ ∃ d' fp' r k v, r ≠ 0 ∧ d.writes (s.first + s.fin / 128 : Nat) (pre.map (chunkAt all)) = (d', r) ∧ ApLoop w W8 z a AL cL fp s d bC oC cC L at_ all k d' fp' r v X
end Go.Proofs.Ytbnflbkaogpnbaa
