/- A range over a function whose iterator may write cells of its own: what it promises, and the law of the loop. -/
import Derived.Test.YtbnflbkaogpnbaaB0
import Derived.RangeFuncNested
import Derived.RangeFuncBound
import Derived.RangeFuncCalls
import Derived.RangeFuncLeaves
namespace Go.Proofs.Ytbnflbkaogpnbaa
open Go.RowKit

/-- The blocks of R lie as they lay. -/
structure Stays (R : List Nat) (X Y : World) : Prop where
  size : X.heap.size ≤ Y.heap.size
  same : ∀ k ∈ R, k < X.heap.size → Y.heap[k]? = X.heap[k]?

theorem Stays.refl (R : List Nat) (X : World) : Stays R X X := ⟨Nat.le_refl _, fun _ _ _ => rfl⟩
theorem Stays.trans {R : List Nat} {X Y Z : World} (h : Stays R X Y) (k : Stays R Y Z) : Stays R X Z :=
  ⟨Nat.le_trans h.size k.size, fun i hi hl => (k.same i hi (Nat.lt_of_lt_of_le hl h.size)).trans (h.same i hi hl)⟩
theorem Stays.of_kept {R F : List Nat} {X Y : World} (h : Kept F X Y) (hR : ∀ k ∈ R, k < X.heap.size → k ∉ F) : Stays R X Y :=
  ⟨h.size, fun k hk hl => h.block k hl (hR k hk hl)⟩

theorem Kept.putObj {F : List Nat} {r : Nat} (hr : r ∈ F) (W : World) (o : Obj) : Kept F W (W.putObj r o) :=
  ⟨rfl, rfl, rfl, by simp, fun k _ hn => World.putObj_heap_other (fun e => hn (e ▸ hr))⟩

/-- What an iterator's value promises: B the blocks that it writes, R those that a round must let lie, G what it says of a thing it gives. -/
def SeqAt {α : Type} (F : Fence) (n : Nat) (P : Program) (g : Nat) (lb : Array Value) (encs : α → Array Value) (B R : List Nat) (G : List α → World → α → World → Prop) (S Sp : List α → Prop) (w : World) : Prop :=
  ∀ (l : Nat) (J Jx : List α → World → Prop) (W : World), Kept [] w W →
    (∀ s X Y, J s X → Kept B X Y → J s Y) → (∀ s X Y, Jx s X → Kept B X Y → Jx s Y) →
    (∀ pre x X0 X, J pre X0 → W.heap.size ≤ X0.heap.size → Kept B X0 X → G pre X0 x X → YieldAt F (n - 1) P l (encs x) X fun e Y =>
      (e = .returned (.bool true) ∧ J (pre ++ [x]) Y ∧ Stays R X Y) ∨ (e = .returned (.bool false) ∧ Jx (pre ++ [x]) Y ∧ X.heap.size ≤ Y.heap.size)) →
    J [] W →
    CallsIn F n P g (#[.func (.yield l) #[] #[]] ++ lb) W fun e Y => (∃ v, e = .returned v) ∧ ((∃ xs, S xs ∧ J xs Y) ∨ (∃ pre, Sp pre ∧ Jx pre Y))

/-- How the body of a round may be left. -/
def keptPost {α : Type} (D : Nat) (R : List Nat) (I : List α → World → Prop) (Ix : Code → List α → World → Prop) (xs : List α) (W : World) : Exit → Act → World → Prop
  | .normal, _, W' => Stays (D :: (D + 1) :: R) W W' ∧ I xs W'
  | .ret, _, W' => Stays [D, D + 1] W W' ∧ Ix .ret xs W'
  | .exit id, _, W' => Stays [D, D + 1] W W' ∧ Ix (.exit id) xs W'
  | .goto t, _, W' => Stays [D, D + 1] W W' ∧ Ix (.goto t) xs W'
  | .panic _, _, _ => False
  | .outgrown, _, _ => False

variable {F : Fence} {n : Nat} {P : Program}

theorem wpIn_rangeFunc_kept {α : Type} {g : Operand} {ps : Array Tmp} {assign body : Code} {Q : Exit → Act → World → Prop} {a : Act} {w : World}
    (hro : F.round = none) (h1 : 1 ≤ n) {gf : Nat} {lb : Array Value} (hg : a.eval g = .func (.func gf) #[] lb) (hFg : F.fn gf) (eg : ∀ args w, (callFunc gf args).run P w = .ok (.enter gf args) w)
    {encs : α → Array Value} {B R : List Nat} {G : List α → World → α → World → Prop} {S Sp : List α → Prop} (hseq : SeqAt F (n - 1) P gf lb encs B R G S Sp w) (hps : ∀ x, (encs x).size = ps.size)
    (hB : ∀ k ∈ B, k < w.heap.size) (hR : ∀ k ∈ R, k < w.heap.size)
    (hG : ∀ pre X0 x X Y, w.heap.size + 2 ≤ X0.heap.size → G pre X0 x X → Kept [w.heap.size, w.heap.size + 1] X Y → G pre X0 x Y)
    (I : List α → World → Prop) (Ix : Code → List α → World → Prop) (hI : ∀ s X Y, I s X → Kept (w.heap.size :: (w.heap.size + 1) :: B) X Y → I s Y)
    (hIx : ∀ c s X Y, Ix c s X → Kept (w.heap.size :: (w.heap.size + 1) :: B) X Y → Ix c s Y) (h0 : I [] w) (a₁ : α → Act)
    (hassign : ∀ (l : Nat) (x : α) (W : World) (K : Act → World → Prop), K (a₁ x) W →
      assign.wpIn (F.inRound l) (n - 1 - 1) P (Exit.then K (fun _ _ _ => False)) { tmps := (ps.zip (encs x)).foldl (fun t (p, v) => t.setIfInBounds p v) a.tmps, defers := [] } W)
    (hbody : ∀ (l : Nat) (pre : List α) (x : α) (X0 X : World), w.heap.size + 2 ≤ X0.heap.size → I pre X0 → Kept (w.heap.size :: (w.heap.size + 1) :: B) X0 X → G pre X0 x X →
      body.wpIn (F.inRound l) (n - 1 - 1) P (keptPost w.heap.size R I Ix (pre ++ [x]) X) (a₁ x) X)
    (hdone : ∀ (xs : List α) (W : World), S xs → I xs W → W.heap[w.heap.size]? = some (.deferred (some [])) → Q .normal { a with defers := { target := .collected w.heap.size, args := #[] } :: a.defers } W)
    (hstop : ∀ (c : Code) (pre : List α) (W : World), Sp pre → Ix c pre W → W.heap[w.heap.size]? = some (.deferred (some [])) → c.wpIn F n P Q { a with defers := { target := .collected w.heap.size, args := #[] } :: a.defers } W) :
    (Code.rangeFunc g ps assign body).wpIn F n P Q a w := by
  refine wpIn_rangeFunc ?_
  intro fn hfn
  rw [hro]
  obtain ⟨rec, hrec⟩ : ∃ rec : LoopState → Option Code → Loop, rec = fun st pe => { state := st, pending := pe, fn, tmps := a.tmps, params := ps, assign, body, defers := w.heap.size } := ⟨_, rfl⟩
  obtain ⟨W1, hW1⟩ : ∃ W1, (w.alloc (.deferred (some []))).alloc (.loop (rec .ready none)) = W1 := ⟨_, rfl⟩
  have hL1 : W1.heap[w.heap.size + 1]? = some (.loop (rec .ready none)) := by
    rw [← hW1]; have := World.alloc_heap_new (w.alloc (.deferred (some []))) (.loop (rec .ready none)); rwa [World.size_alloc] at this
  have hK1 : W1.heap[w.heap.size]? = some (.deferred (some [])) := by
    rw [← hW1]; exact (Below.heap_alloc _ _ _ (by simp)).trans (World.alloc_heap_new w _)
  have hk1 : Kept [] w W1 := by rw [← hW1]; exact (Kept.alloc [] w _).trans (Kept.alloc [] _ _)
  have hs1 : W1.heap.size = w.heap.size + 2 := by rw [← hW1]; simp
  have hI1 : I [] W1 := hI _ _ _ h0 (hk1.mono (by simp))
  have hBD : w.heap.size ∉ B ∧ w.heap.size + 1 ∉ B := ⟨fun h => by have := hB _ h; omega, fun h => by have := hB _ h; omega⟩
  have hsub : ∀ {X Y : World}, Kept B X Y → Kept (w.heap.size :: (w.heap.size + 1) :: B) X Y := fun h => h.mono (fun i hi => .inl (by simp [hi]))
  refine ⟨w.heap.size + 1, [{ target := .collected w.heap.size, args := #[] }], W1, { target := .fn (.func gf) lb, args := #[.func (.yield (w.heap.size + 1)) #[] #[]] }, W1, gf,
    #[.func (.yield (w.heap.size + 1)) #[] #[]] ++ lb, W1, ?_, ?_, ?_, ?_, fun _ => h1, ?_⟩
  · rw [← hW1, hrec]; exact run_enterLoop_outer _ _ _ _ _
  · simp only [resolve, hg]
    simp [go_sem]
  · intro f' hf'; simp [Target.leads] at hf'; subst hf'; exact hFg
  · simp [invoke, go_sem, eg]
  · refine (hseq (w.heap.size + 1)
      (fun pre W => I pre W ∧ W.heap[w.heap.size + 1]? = some (.loop (rec .ready none)) ∧ W.heap[w.heap.size]? = some (.deferred (some [])))
      (fun pre W => ∃ c, Ix c pre W ∧ W.heap[w.heap.size + 1]? = some (.loop (rec .done (some c))) ∧ W.heap[w.heap.size]? = some (.deferred (some [])))
      W1 hk1
      (fun s X Y hs hk => ⟨hI s X Y hs.1 (hsub hk), (hk.block _ (Array.getElem?_eq_some_iff.1 hs.2.1).1 hBD.2).trans hs.2.1, (hk.block _ (Array.getElem?_eq_some_iff.1 hs.2.2).1 hBD.1).trans hs.2.2⟩)
      (fun s X Y hs hk => by
        obtain ⟨c, hc, hl, hd⟩ := hs
        exact ⟨c, hIx c s X Y hc (hsub hk), (hk.block _ (Array.getElem?_eq_some_iff.1 hl).1 hBD.2).trans hl, (hk.block _ (Array.getElem?_eq_some_iff.1 hd).1 hBD.1).trans hd⟩)
      ?_ ⟨hI1, hL1, hK1⟩).mono ?_
    · rintro pre x X0 W ⟨hi0, hl0, hd0⟩ hsz hkX hGx
      rw [hs1] at hsz
      have hl := (hkX.block _ (Array.getElem?_eq_some_iff.1 hl0).1 hBD.2).trans hl0
      have hk := (hkX.block _ (Array.getElem?_eq_some_iff.1 hd0).1 hBD.1).trans hd0
      have hlt : w.heap.size + 1 < W.heap.size := (Array.getElem?_eq_some_iff.1 hl).1
      have hy := run_yield (P := P) (args := encs x) hl (by rw [hrec]; exact hps x)
      rw [hrec] at hy
      refine ⟨fn, _, assign, body, hy, roundIn_of_wpIn hfn (hassign _ x W _ ⟨_, run_beginRound hl (by rw [hrec]), ?_⟩)⟩
      clear hy
      have hl2 : (W.putObj (w.heap.size + 1) (.loop { rec .ready none with state := .busy })).heap[w.heap.size + 1]? = some (.loop { rec .ready none with state := .busy }) := World.putObj_heap_same hlt
      have hk2 : (W.putObj (w.heap.size + 1) (.loop { rec .ready none with state := .busy })).heap[w.heap.size]? = some (.deferred (some [])) := (World.putObj_heap_other (by omega)).trans hk
      have hkW2 : Kept [w.heap.size, w.heap.size + 1] W (W.putObj (w.heap.size + 1) (.loop { rec .ready none with state := .busy })) := Kept.putObj (by simp) _ _
      have hsW2 : W.heap.size = (W.putObj (w.heap.size + 1) (.loop { rec .ready none with state := .busy })).heap.size := by simp
      refine wpIn_mono (hbody _ pre x X0 _ hsz hi0 ((hsub hkX).trans (hkW2.mono (by simp))) (hG pre X0 x W _ hsz hGx hkW2)) ?_
      have fin : ∀ (jump : Option Code) (W3 : World), Stays [w.heap.size, w.heap.size + 1] (W.putObj (w.heap.size + 1) (.loop { rec .ready none with state := .busy })) W3 →
          (Instr.endRound (w.heap.size + 1) jump).run P W3 = .ok (.bool jump.isNone) (W3.putObj (w.heap.size + 1) (.loop (rec (if jump.isNone then .ready else .done) jump))) ∧
          W3.heap[w.heap.size + 1]? = some (.loop { rec .ready none with state := .busy }) ∧
          (W3.putObj (w.heap.size + 1) (.loop (rec (if jump.isNone then .ready else .done) jump))).heap[w.heap.size + 1]? = some (.loop (rec (if jump.isNone then .ready else .done) jump)) ∧
          (W3.putObj (w.heap.size + 1) (.loop (rec (if jump.isNone then .ready else .done) jump))).heap[w.heap.size]? = some (.deferred (some [])) := fun jump W3 hk3 => by
        have hl3 := (hk3.same _ (by simp) (Array.getElem?_eq_some_iff.1 hl2).1).trans hl2
        have := run_endRound (P := P) jump hl3
        rw [hrec] at this ⊢
        exact ⟨this, by rw [hrec] at hl3; exact hl3, World.putObj_heap_same (Array.getElem?_eq_some_iff.1 hl3).1, (World.putObj_heap_other (by omega)).trans ((hk3.same _ (by simp) (Array.getElem?_eq_some_iff.1 hk2).1).trans hk2)⟩
      have put : ∀ (W3 : World) (o : Obj), Kept (w.heap.size :: (w.heap.size + 1) :: B) W3 (W3.putObj (w.heap.size + 1) o) := fun W3 o => Kept.putObj (by simp) _ _
      rintro e a3 W3 hp
      cases e with
      | normal =>
        obtain ⟨hk3, hi3⟩ := hp
        obtain ⟨hr, hl3, hl4, hk4⟩ := fin none W3 ⟨hk3.size, fun k hk => hk3.same k (by simp at hk ⊢; rcases hk with rfl | rfl <;> simp)⟩
        refine ⟨_, _, hr, .inl ⟨rfl, ⟨hI _ _ _ hi3 (put _ _), hl4, hk4⟩, ⟨by simpa using hk3.size, fun k hkR hkl => ?_⟩⟩⟩
        have hne : k ≠ w.heap.size + 1 := fun e => by have := hR k hkR; omega
        exact (World.putObj_heap_other hne).trans ((hk3.same k (by simp [hkR]) (by simpa using hkl)).trans (World.putObj_heap_other hne))
      | ret =>
        obtain ⟨hk3, hi3⟩ := hp
        obtain ⟨hr, hl3, hl4, hk4⟩ := fin (some .ret) W3 hk3
        exact ⟨_, _, hr, .inr ⟨rfl, ⟨.ret, hIx _ _ _ _ hi3 (put _ _), hl4, hk4⟩, by simpa using hk3.size⟩⟩
      | exit id =>
        obtain ⟨hk3, hi3⟩ := hp
        obtain ⟨hr, hl3, hl4, hk4⟩ := fin (some (.exit id)) W3 hk3
        exact ⟨_, _, hr, .inr ⟨rfl, ⟨.exit id, hIx _ _ _ _ hi3 (put _ _), hl4, hk4⟩, by simpa using hk3.size⟩⟩
      | goto t =>
        obtain ⟨hk3, hi3⟩ := hp
        obtain ⟨hr, hl3, hl4, hk4⟩ := fin (some (.goto t)) W3 hk3
        exact ⟨_, _, hr, .inr ⟨rfl, ⟨.goto t, hIx _ _ _ _ hi3 (put _ _), hl4, hk4⟩, by simpa using hk3.size⟩⟩
      | panic ch => exact hp.elim
      | outgrown => exact hp.elim
    · rintro e W2 ⟨⟨v, rfl⟩, (⟨xs, hS, hi, hl, hk⟩ | ⟨pre, hSp, c, hi, hl, hk⟩)⟩
      · exact ⟨none, _, by have := run_endLoop (P := P) hl (by rw [hrec]; simp); rw [hrec] at this; exact this, hdone xs _ hS (hI _ _ _ hi (Kept.putObj (by simp) _ _)) ((World.putObj_heap_other (by omega)).trans hk)⟩
      · exact ⟨some c, _, by have := run_endLoop (P := P) hl (by rw [hrec]; simp); rw [hrec] at this; exact this, hstop c pre _ hSp (hIx c _ _ _ hi (Kept.putObj (by simp) _ _)) ((World.putObj_heap_other (by omega)).trans hk)⟩
end Go.Proofs.Ytbnflbkaogpnbaa
