/- Texts in one: U4 V0 V1 V2 S2. -/
import Derived.Test.YtbnflbkaogpnbaaGreatPAD
import Derived.Lib.AppendZerosOnto
import Derived.Lib.Walk
import Derived.Lib.SliceRun
import Derived.Test.YtbnflbkaogpnbaaGreatPAA
import Derived.RangeFuncNested
import Derived.RangeFuncBound
import Derived.RangeFuncCalls
import Derived.RangeFuncLeaves
import Derived.OrdersHeld
import Derived.OrdersIn
import Derived.Deep.RegionHeld3
import Derived.Shelf.Abstract
import Derived.OwnWalkIn
import Derived.TacticsInMore
import Derived.LoopNIn
import Derived.LoopIn
namespace Go.Proofs.YtbnflbkaogpnbaaGreat
open Go.RowKit
def GrowPost (w : World) (e : Ending) (w' : World) : Prop :=
 ∃ G, e = .returned (.slice (some ⟨w.heap.size, 0, none⟩) 0 G) ∧ w'.ownsRow w.heap.size 5 1 (.slice (some ⟨w.heap.size, 0, none⟩) 0 G) 0 (u8vs []) ∧ Kept [] w w'
set_option maxHeartbeats 1000000 in
theorem grow_any (n : Nat) (w : World) (h0 : 0 < n) (h1 : n ≤ 100000000) : Calls Tryz.prog 74 #[.slice none 0 0, .int .i64 n] w (GrowPost w) := by
 obtain ⟨j0, hj0, ju0, ju1, ju2⟩ := info_parts info_u8
 have hold : (Builtin.firstCells j0.size 0 (.slice none 0 0)).run Tryz.prog w.drew = .ok ([] : List Value).toArray w.drew := run_firstCells_none w.drew j0.size 0 0 0
 have hrz : ∀ ty, (Builtin.append_ #[45, 3] ty #[.slice none 0 0, .int .i64 (n : Int)]).run Tryz.prog w =
   .ok (.slice (some ⟨w.heap.size, 0, none⟩) n (grownCap w n 0 5)) (w.drew.alloc (.cells (#[] ++ Builtin.zeroCells #[.int .u8 0] n ++ Builtin.zeroCells #[.int .u8 0] (grownCap w n 0 5 - n)) 5)) := fun ty => by
  have h := Lib.run_append_grow_zeros w 45 3 ty 5 j0 _ .i64 .i64 Tryz.underlying45 Tryz.underlying3 hj0 ju0 none 0 0 [] hold n (by omega) (by rw [ju1]; omega) (by omega) (by omega)
   (by rw [ju2]; omega) (by rw [ju2]; exact growslice_fits (by omega) (by omega))
  simpa [Value.cells] using h
 have hGn : n ≤ grownCap w n 0 5 := grownCap_ge w _ _ _
 have hGm : grownCap w n 0 5 ≤ maxLen := grownCap_le_maxLen w n 0 5 (by unfold maxLen; omega)
 generalize grownCap w n 0 5 = G at *
 have hGm2 := hGm
 unfold maxLen at hGm2
 have i1 : ¬ (n : Int) < 0 := by omega
 have i2 : 0 < (n : Int) := by omega
 clear hold
 go_enter Tryz.func74, Tryz.ntmps74
 go_wp2_with (at_builtin; refine Lib.wpList_append_run _ rfl _ _ _ _ rfl _ _ rfl rfl _ _ (hrz _) ?_)
 go_ret
 refine ⟨G, rfl, ⟨rfl, .inr ⟨w.heap.size, G, _, rfl, Nat.le_refl _, heap_alloc_new w.drew _, Nat.zero_le _, hGm, ?_, by simp [u8vs]⟩⟩, (Kept.drew [] w).trans (Kept.alloc [] _ _)⟩
 simp [size_zeroCells]
 omega
/-- A row of bytes, one of several. -/
structure Part where
 A : Option Addr
 n : Nat
 c : Nat
 xs : List UInt8
def Part.val (p : Part) : Value := .slice p.A p.n p.c
def Part.At (w : World) (p : Part) : Prop := SlAt w p.A p.n p.c (u8vs p.xs) ∧ (p.A = none → p.c = 0)
def total : List Part → Nat
 | [] => 0
 | p :: l => p.n + total l
def allB (l : List Part) : List UInt8 := l.flatMap Part.xs
theorem Part.At.kept {w w' : World} {p : Part} {F : List Nat} (h : p.At w) (hk : Kept F w w') (hF : ∀ a, p.A = some a → a.block ∉ F) : p.At w' := ⟨h.1.kept hk hF, h.2⟩
theorem total_append (l m : List Part) : total (l ++ m) = total l + total m := by
 induction l with
 | nil => simp [total]
 | cons p l ih => simp only [List.cons_append, total, ih]; omega
theorem take_part {l : List Part} {k : Nat} {p : Part} (h : l[k]? = some p) : l.take (k + 1) = l.take k ++ [p] := by
 obtain ⟨hk, e⟩ := List.getElem?_eq_some_iff.1 h
 rw [List.take_succ_eq_append_getElem hk, e]
theorem total_take_le (l : List Part) (k : Nat) : total (l.take k) ≤ total l := by
 have := total_append (l.take k) (l.drop k)
 rw [List.take_append_drop] at this
 omega
def CatRel1 (w : World) (l : List Part) (s i : Value) (wr : World) : Prop := ∃ k : Nat, k ≤ l.length ∧ i = .int .i64 k ∧ s = .int .i64 (total (l.take k) : Nat) ∧ wr = w
def CatRel2 (w : World) (l : List Part) (v i : Value) (wr : World) : Prop :=
 ∃ (k : Nat) (A : Option Addr) (c : Nat), k ≤ l.length ∧ i = .int .i64 k ∧ v = .slice A (total (l.take k)) c ∧ wr.ownsRow w.heap.size 5 1 (.slice A (total (l.take k)) c) (total (l.take k)) (u8vs (allB (l.take k))) ∧ Kept [] w wr
set_option maxHeartbeats 1000000 in
set_option maxRecDepth 100000 in
theorem concat_any (w : World) (g o m c : Nat) (l : List Part) (hl : l.length = m) (hg : g < w.heap.size) (hmc : m ≤ c) (hm : m ≤ 1000) (hc : ∀ i p, l[i]? = some p → w.cell? ⟨g, o + i, none⟩ = some p.val) (hp : ∀ p ∈ l, p.At w)
  (h0 : 0 < total l) (h1 : total l ≤ 100000000) : Calls Tryz.prog 38 #[.slice (some ⟨g, o, none⟩) m c] w (ClonePost w 5 (total l) (u8vs (allB l))) := by
 have HL := Lib.hid hl
 clear hl
 go_enter Tryz.func38, Tryz.ntmps38
 go_wp2_with fail
 go_loopw [3, 11] (fun s i wr => CatRel1 w l s i wr) (fun _ i _ => m - (intOf i).toNat)
 case atStart => exact ⟨0, by omega, rfl, rfl, rfl⟩
 case round =>
  obtain ⟨k, hk, rfl, rfl, rfl⟩ := hrel
  rename World => w0
  have hk' : k ≤ m := by rw [← HL.out]; exact hk
  by_cases hlt : k < m
  ·obtain ⟨p, hpk⟩ : ∃ p, l[k]? = some p := ⟨_, List.getElem?_eq_getElem (by rw [HL.out]; exact hlt)⟩
   have i1 : (k : Int) < (m : Int) := by omega
   have hcp := hc k p hpk
   unfold Part.val at hcp
   have htk := total_append (l.take k) [p]
   rw [← take_part hpk] at htk
   have hle := total_take_le l (k + 1)
   have i2 : ¬ ((total (l.take k) : Int) + (p.n : Int)) < 0 := by omega
   simp only [total, Nat.add_zero] at htk
   have HT := Lib.hid htk
   have e3 : ((total (l.take k) : Nat) : Int) + (p.n : Int) = ((total (l.take (k + 1)) : Nat) : Int) := by omega
   have i3 : ¬ (((total (l.take (k + 1)) : Nat) : Int)) < 0 := by omega
   clear hpk htk
   go_wp2_with fail
   go_roundw
   case rel => exact ⟨k + 1, by rw [HL.out]; omega, by go_num, by first | rfl | (rw [← e3]) | go_num, rfl⟩
   case measure => simp [intOf]; omega
  ·have i1 : ¬ (k : Int) < (m : Int) := by omega
   obtain rfl : k = m := by omega
   have ht : l.take k = l := List.take_of_length_le (by rw [HL.out]; exact Nat.le_refl _)
   rw [ht]
   have cg := grow_any (total l) w0 h0 h1
   go_wp2_with fail
   refine cg.mono ?_
   rintro e w1 ⟨G, rfl, hown1, hk1⟩
   have hgs := hk1.size
   have hc1 := fun i p (h : l[i]? = some p) => (hk1.cell (p := ⟨g, o + i, none⟩) hg (by simp)).trans (hc i p h)
   clear cg
   go_wp2_with fail
   go_loopw [6, 27] (fun v i wx => CatRel2 w0 l v i wx) (fun _ i _ => k - (intOf i).toNat)
   case atStart => exact ⟨0, _, _, by omega, rfl, rfl, hown1, hk1⟩
   case round =>
    obtain ⟨j, A1, c1, hj, rfl, rfl, hown2, hk2⟩ := hrel
    have hj' : j ≤ k := by rw [← HL.out]; exact hj
    by_cases hlt2 : j < k
    ·obtain ⟨p, hpk⟩ : ∃ p, l[j]? = some p := ⟨_, List.getElem?_eq_getElem (by rw [HL.out]; exact hlt2)⟩
     have i2 : (j : Int) < (k : Int) := by omega
     have hcp := (hk2.cell (p := ⟨g, o + j, none⟩) hg (by simp)).trans (hc j p hpk)
     unfold Part.val at hcp
     have hpa := (hp p (List.mem_of_getElem? hpk)).kept hk2 (by simp)
     have htk := total_append (l.take j) [p]
     rw [← take_part hpk] at htk
     have hle := total_take_le l (j + 1)
     simp only [total, Nat.add_zero] at htk
     have hall : allB (l.take (j + 1)) = allB (l.take j) ++ p.xs := by rw [take_part hpk]; simp [allB]
     have HT := Lib.hid htk
     have hsz2 := hk2.size
     have hsum : total (l.take j) + p.n ≤ 140737488355328 := by omega
     clear hpk htk
     go_wp2_with (refine wpList_append_u8 rfl (.tmp 31) (.tmp 32) rfl w0.heap.size _ (total (l.take j)) (allB (l.take j)) rfl hown2 p.A p.n p.c p.xs rfl hpa.1 hpa.2 hsum hsz2 ?_; intro A3 c3 w3 hown3 hgrow3 hA3)
     go_roundw
     case rel =>
      refine ⟨j + 1, A3, c3, by rw [HL.out]; omega, by go_num, by rw [HT.out], by rw [hall, HT.out]; exact hown3, hk2.trans' (Kept.grown (F := (Value.slice A1 (total (l.take j)) c1).ownBlock.toList) hgrow3 (fun i e => by
       have e' : (Value.slice A1 (total (l.take j)) c1).ownBlock = some i := e
       rw [e']; simp)) (fun i hi => .inr ?_)⟩
      exact (hown2.lt i (by simpa using hi)).1
     case measure => simp [intOf]; omega
    ·have i2 : ¬ (j : Int) < (k : Int) := by omega
     obtain rfl : j = k := by omega
     rw [ht] at hown2
     go_wp2_with fail
     go_ret
     exact ClonePost.mk hown2 (hk2.below (Nat.le_refl _) (by simp))
end Go.Proofs.YtbnflbkaogpnbaaGreat
namespace Go.Proofs.YtbnflbkaogpnbaaGreat
open Go.RowKit
/-- The blocks of R lie as they lay. -/
structure Stays (R : List Nat) (X Y : World) : Prop where
 size : X.heap.size ≤ Y.heap.size
 same : ∀ k ∈ R, k < X.heap.size → Y.heap[k]? = X.heap[k]?
theorem Stays.refl (R : List Nat) (X : World) : Stays R X X := ⟨Nat.le_refl _, fun _ _ _ => rfl⟩
theorem Stays.trans {R : List Nat} {X Y Z : World} (h : Stays R X Y) (k : Stays R Y Z) : Stays R X Z :=
 ⟨Nat.le_trans h.size k.size, fun i hi hl => (k.same i hi (Nat.lt_of_lt_of_le hl h.size)).trans (h.same i hi hl)⟩
theorem Stays.of_kept {R F : List Nat} {X Y : World} (h : Kept F X Y) (hR : ∀ k ∈ R, k < X.heap.size → k ∉ F) : Stays R X Y :=
 ⟨h.size, fun k hk hl => h.block k hl (hR k hk hl)⟩
theorem Kept.putObj {F : List Nat} {r : Nat} (hr : r ∈ F) (W : World) (o : Obj) : Kept F W (W.putObj r o) :=
 ⟨rfl, rfl, rfl, by simp, fun k _ hn => World.putObj_heap_other (fun e => hn (e ▸ hr))⟩
/-- What an iterator's value promises: B the blocks that it writes, R those that a round must let lie, G what it says of a thing it gives. -/
def SeqAt {α : Type} (F : Fence) (n : Nat) (P : Program) (g : Nat) (lb : Array Value) (encs : α → Array Value) (B R : List Nat) (G : List α → World → α → World → Prop) (S Sp : List α → Prop) (w : World) : Prop :=
 ∀ (l : Nat) (J Jx : List α → World → Prop) (W : World), Kept [] w W →
  (∀ s X Y, J s X → Kept B X Y → J s Y) → (∀ s X Y, Jx s X → Kept B X Y → Jx s Y) →
  (∀ pre x X0 X, J pre X0 → W.heap.size ≤ X0.heap.size → Kept B X0 X → G pre X0 x X → YieldAt F (n - 1) P l (encs x) X fun e Y =>
   (e = .returned (.bool true) ∧ J (pre ++ [x]) Y ∧ Stays R X Y) ∨ (e = .returned (.bool false) ∧ Jx (pre ++ [x]) Y ∧ X.heap.size ≤ Y.heap.size)) →
  J [] W →
  CallsIn F n P g (#[.func (.yield l) #[] #[]] ++ lb) W fun e Y => (∃ v, e = .returned v) ∧ ((∃ xs, S xs ∧ J xs Y) ∨ (∃ pre, Sp pre ∧ Jx pre Y))
/-- How the body of a round may be left. -/
def keptPost {α : Type} (D : Nat) (R : List Nat) (I : List α → World → Prop) (Ix : Code → List α → World → Prop) (xs : List α) (W : World) : Exit → Act → World → Prop
 | .normal, _, W' => Stays (D :: (D + 1) :: R) W W' ∧ I xs W'
 | .ret, _, W' => Stays [D, D + 1] W W' ∧ Ix .ret xs W'
 | .exit id, _, W' => Stays [D, D + 1] W W' ∧ Ix (.exit id) xs W'
 | .goto t, _, W' => Stays [D, D + 1] W W' ∧ Ix (.goto t) xs W'
 | .panic _, _, _ => False
 | .outgrown, _, _ => False
variable {F : Fence} {n : Nat} {P : Program}
theorem wpIn_rangeFunc_kept {α : Type} {g : Operand} {ps : Array Tmp} {assign body : Code} {Q : Exit → Act → World → Prop} {a : Act} {w : World}
  (hro : F.round = none) (h1 : 1 ≤ n) {gf : Nat} {lb : Array Value} (hg : a.eval g = .func (.func gf) #[] lb) (hFg : F.fn gf) (eg : ∀ args w, (callFunc gf args).run P w = .ok (.enter gf args) w)
  {encs : α → Array Value} {B R : List Nat} {G : List α → World → α → World → Prop} {S Sp : List α → Prop} (hseq : SeqAt F (n - 1) P gf lb encs B R G S Sp w) (hps : ∀ x, (encs x).size = ps.size)
  (hB : ∀ k ∈ B, k < w.heap.size) (hR : ∀ k ∈ R, k < w.heap.size)
  (hG : ∀ pre X0 x X Y, w.heap.size + 2 ≤ X0.heap.size → G pre X0 x X → Kept [w.heap.size, w.heap.size + 1] X Y → G pre X0 x Y)
  (I : List α → World → Prop) (Ix : Code → List α → World → Prop) (hI : ∀ s X Y, I s X → Kept (w.heap.size :: (w.heap.size + 1) :: B) X Y → I s Y)
  (hIx : ∀ c s X Y, Ix c s X → Kept (w.heap.size :: (w.heap.size + 1) :: B) X Y → Ix c s Y) (h0 : I [] w) (a₁ : α → Act)
  (hassign : ∀ (l : Nat) (x : α) (W : World) (K : Act → World → Prop), K (a₁ x) W →
   assign.wpIn (F.inRound l) (n - 1 - 1) P (Exit.then K (fun _ _ _ => False)) { tmps := (ps.zip (encs x)).foldl (fun t (p, v) => t.setIfInBounds p v) a.tmps, defers := [] } W)
  (hbody : ∀ (l : Nat) (pre : List α) (x : α) (X0 X : World), w.heap.size + 2 ≤ X0.heap.size → I pre X0 → Kept (w.heap.size :: (w.heap.size + 1) :: B) X0 X → G pre X0 x X →
   body.wpIn (F.inRound l) (n - 1 - 1) P (keptPost w.heap.size R I Ix (pre ++ [x]) X) (a₁ x) X)
  (hdone : ∀ (xs : List α) (W : World), S xs → I xs W → W.heap[w.heap.size]? = some (.deferred (some [])) → Q .normal { a with defers := { target := .collected w.heap.size, args := #[] } :: a.defers } W)
  (hstop : ∀ (c : Code) (pre : List α) (W : World), Sp pre → Ix c pre W → W.heap[w.heap.size]? = some (.deferred (some [])) → c.wpIn F n P Q { a with defers := { target := .collected w.heap.size, args := #[] } :: a.defers } W) :
  (Code.rangeFunc g ps assign body).wpIn F n P Q a w := by
 refine wpIn_rangeFunc ?_
 intro fn hfn
 rw [hro]
 obtain ⟨rec, hrec⟩ : ∃ rec : LoopState → Option Code → Loop, rec = fun st pe => { state := st, pending := pe, fn, tmps := a.tmps, params := ps, assign, body, defers := w.heap.size } := ⟨_, rfl⟩
 obtain ⟨W1, hW1⟩ : ∃ W1, (w.alloc (.deferred (some []))).alloc (.loop (rec .ready none)) = W1 := ⟨_, rfl⟩
 have hL1 : W1.heap[w.heap.size + 1]? = some (.loop (rec .ready none)) := by
  rw [← hW1]; have := World.alloc_heap_new (w.alloc (.deferred (some []))) (.loop (rec .ready none)); rwa [World.size_alloc] at this
 have hK1 : W1.heap[w.heap.size]? = some (.deferred (some [])) := by
  rw [← hW1]; exact (Below.heap_alloc _ _ _ (by simp)).trans (World.alloc_heap_new w _)
 have hk1 : Kept [] w W1 := by rw [← hW1]; exact (Kept.alloc [] w _).trans (Kept.alloc [] _ _)
 have hs1 : W1.heap.size = w.heap.size + 2 := by rw [← hW1]; simp
 have hI1 : I [] W1 := hI _ _ _ h0 (hk1.mono (by simp))
 have hBD : w.heap.size ∉ B ∧ w.heap.size + 1 ∉ B := ⟨fun h => by have := hB _ h; omega, fun h => by have := hB _ h; omega⟩
 have hsub : ∀ {X Y : World}, Kept B X Y → Kept (w.heap.size :: (w.heap.size + 1) :: B) X Y := fun h => h.mono (fun i hi => .inl (by simp [hi]))
 refine ⟨w.heap.size + 1, [{ target := .collected w.heap.size, args := #[] }], W1, { target := .fn (.func gf) lb, args := #[.func (.yield (w.heap.size + 1)) #[] #[]] }, W1, gf,
  #[.func (.yield (w.heap.size + 1)) #[] #[]] ++ lb, W1, ?_, ?_, ?_, ?_, fun _ => h1, ?_⟩
 ·rw [← hW1, hrec]; exact run_enterLoop_outer _ _ _ _ _
 ·simp only [resolve, hg]
  simp [go_sem]
 ·intro f' hf'; simp [Target.leads] at hf'; subst hf'; exact hFg
 ·simp [invoke, go_sem, eg]
 ·refine (hseq (w.heap.size + 1)
   (fun pre W => I pre W ∧ W.heap[w.heap.size + 1]? = some (.loop (rec .ready none)) ∧ W.heap[w.heap.size]? = some (.deferred (some [])))
   (fun pre W => ∃ c, Ix c pre W ∧ W.heap[w.heap.size + 1]? = some (.loop (rec .done (some c))) ∧ W.heap[w.heap.size]? = some (.deferred (some [])))
   W1 hk1
   (fun s X Y hs hk => ⟨hI s X Y hs.1 (hsub hk), (hk.block _ (Array.getElem?_eq_some_iff.1 hs.2.1).1 hBD.2).trans hs.2.1, (hk.block _ (Array.getElem?_eq_some_iff.1 hs.2.2).1 hBD.1).trans hs.2.2⟩)
   (fun s X Y hs hk => by
    obtain ⟨c, hc, hl, hd⟩ := hs
    exact ⟨c, hIx c s X Y hc (hsub hk), (hk.block _ (Array.getElem?_eq_some_iff.1 hl).1 hBD.2).trans hl, (hk.block _ (Array.getElem?_eq_some_iff.1 hd).1 hBD.1).trans hd⟩)
   ?_ ⟨hI1, hL1, hK1⟩).mono ?_
  ·rintro pre x X0 W ⟨hi0, hl0, hd0⟩ hsz hkX hGx
   rw [hs1] at hsz
   have hl := (hkX.block _ (Array.getElem?_eq_some_iff.1 hl0).1 hBD.2).trans hl0
   have hk := (hkX.block _ (Array.getElem?_eq_some_iff.1 hd0).1 hBD.1).trans hd0
   have hlt : w.heap.size + 1 < W.heap.size := (Array.getElem?_eq_some_iff.1 hl).1
   have hy := run_yield (P := P) (args := encs x) hl (by rw [hrec]; exact hps x)
   rw [hrec] at hy
   refine ⟨fn, _, assign, body, hy, roundIn_of_wpIn hfn (hassign _ x W _ ⟨_, run_beginRound hl (by rw [hrec]), ?_⟩)⟩
   clear hy
   have hl2 : (W.putObj (w.heap.size + 1) (.loop { rec .ready none with state := .busy })).heap[w.heap.size + 1]? = some (.loop { rec .ready none with state := .busy }) := World.putObj_heap_same hlt
   have hk2 : (W.putObj (w.heap.size + 1) (.loop { rec .ready none with state := .busy })).heap[w.heap.size]? = some (.deferred (some [])) := (World.putObj_heap_other (by omega)).trans hk
   have hkW2 : Kept [w.heap.size, w.heap.size + 1] W (W.putObj (w.heap.size + 1) (.loop { rec .ready none with state := .busy })) := Kept.putObj (by simp) _ _
   have hsW2 : W.heap.size = (W.putObj (w.heap.size + 1) (.loop { rec .ready none with state := .busy })).heap.size := by simp
   refine wpIn_mono (hbody _ pre x X0 _ hsz hi0 ((hsub hkX).trans (hkW2.mono (by simp))) (hG pre X0 x W _ hsz hGx hkW2)) ?_
   have fin : ∀ (jump : Option Code) (W3 : World), Stays [w.heap.size, w.heap.size + 1] (W.putObj (w.heap.size + 1) (.loop { rec .ready none with state := .busy })) W3 →
     (Instr.endRound (w.heap.size + 1) jump).run P W3 = .ok (.bool jump.isNone) (W3.putObj (w.heap.size + 1) (.loop (rec (if jump.isNone then .ready else .done) jump))) ∧
     W3.heap[w.heap.size + 1]? = some (.loop { rec .ready none with state := .busy }) ∧
     (W3.putObj (w.heap.size + 1) (.loop (rec (if jump.isNone then .ready else .done) jump))).heap[w.heap.size + 1]? = some (.loop (rec (if jump.isNone then .ready else .done) jump)) ∧
     (W3.putObj (w.heap.size + 1) (.loop (rec (if jump.isNone then .ready else .done) jump))).heap[w.heap.size]? = some (.deferred (some [])) := fun jump W3 hk3 => by
    have hl3 := (hk3.same _ (by simp) (Array.getElem?_eq_some_iff.1 hl2).1).trans hl2
    have := run_endRound (P := P) jump hl3
    rw [hrec] at this ⊢
    exact ⟨this, by rw [hrec] at hl3; exact hl3, World.putObj_heap_same (Array.getElem?_eq_some_iff.1 hl3).1, (World.putObj_heap_other (by omega)).trans ((hk3.same _ (by simp) (Array.getElem?_eq_some_iff.1 hk2).1).trans hk2)⟩
   have put : ∀ (W3 : World) (o : Obj), Kept (w.heap.size :: (w.heap.size + 1) :: B) W3 (W3.putObj (w.heap.size + 1) o) := fun W3 o => Kept.putObj (by simp) _ _
   rintro e a3 W3 hp
   cases e with
   | normal =>
    obtain ⟨hk3, hi3⟩ := hp
    obtain ⟨hr, hl3, hl4, hk4⟩ := fin none W3 ⟨hk3.size, fun k hk => hk3.same k (by simp at hk ⊢; rcases hk with rfl | rfl <;> simp)⟩
    refine ⟨_, _, hr, .inl ⟨rfl, ⟨hI _ _ _ hi3 (put _ _), hl4, hk4⟩, ⟨by simpa using hk3.size, fun k hkR hkl => ?_⟩⟩⟩
    have hne : k ≠ w.heap.size + 1 := fun e => by have := hR k hkR; omega
    exact (World.putObj_heap_other hne).trans ((hk3.same k (by simp [hkR]) (by simpa using hkl)).trans (World.putObj_heap_other hne))
   | ret =>
    obtain ⟨hk3, hi3⟩ := hp
    obtain ⟨hr, hl3, hl4, hk4⟩ := fin (some .ret) W3 hk3
    exact ⟨_, _, hr, .inr ⟨rfl, ⟨.ret, hIx _ _ _ _ hi3 (put _ _), hl4, hk4⟩, by simpa using hk3.size⟩⟩
   | exit id =>
    obtain ⟨hk3, hi3⟩ := hp
    obtain ⟨hr, hl3, hl4, hk4⟩ := fin (some (.exit id)) W3 hk3
    exact ⟨_, _, hr, .inr ⟨rfl, ⟨.exit id, hIx _ _ _ _ hi3 (put _ _), hl4, hk4⟩, by simpa using hk3.size⟩⟩
   | goto t =>
    obtain ⟨hk3, hi3⟩ := hp
    obtain ⟨hr, hl3, hl4, hk4⟩ := fin (some (.goto t)) W3 hk3
    exact ⟨_, _, hr, .inr ⟨rfl, ⟨.goto t, hIx _ _ _ _ hi3 (put _ _), hl4, hk4⟩, by simpa using hk3.size⟩⟩
   | panic ch => exact hp.elim
   | outgrown => exact hp.elim
  ·rintro e W2 ⟨⟨v, rfl⟩, (⟨xs, hS, hi, hl, hk⟩ | ⟨pre, hSp, c, hi, hl, hk⟩)⟩
   ·exact ⟨none, _, by have := run_endLoop (P := P) hl (by rw [hrec]; simp); rw [hrec] at this; exact this, hdone xs _ hS (hI _ _ _ hi (Kept.putObj (by simp) _ _)) ((World.putObj_heap_other (by omega)).trans hk)⟩
   ·exact ⟨some c, _, by have := run_endLoop (P := P) hl (by rw [hrec]; simp); rw [hrec] at this; exact this, hstop c pre _ hSp (hIx c _ _ _ hi (Kept.putObj (by simp) _ _)) ((World.putObj_heap_other (by omega)).trans hk)⟩
end Go.Proofs.YtbnflbkaogpnbaaGreat
namespace Go.Proofs.YtbnflbkaogpnbaaGreat
open Go.RowKit
variable {P : Program} {ops : Array Oper} {Q : Exit → Act → World → Prop}
def noDefer (o : Oper) : Bool := match o.op with | .defer _ => false | _ => true
theorem noDefer_ne {o : Oper} (h : noDefer o = true) : ∀ c, o.op ≠ .defer c := fun c e => by
 unfold noDefer at h
 rw [e] at h
 cases h
theorem wpIn_of_wp {l n : Nat} {o : Oper} (hd : noDefer o = true) {K : Act → World → Prop} {a : Act} {w : World} (h : o.wp P a w K Q) : o.wpIn (Fence.wide.inRound l) n P a w K Q := by
 refine ⟨fun _ _ => trivial, ?_⟩
 rw [Oper.semAt_eq _ _ _ (noDefer_ne hd)]
 unfold Oper.wp at h
 generalize (execOp a.eval o).run P w = r at h
 have hde : ∀ {n : Nat}, (Fence.wide.inRound l).depth.isSome = true → 1 ≤ n := fun h => by cases h
 cases r with
 | ok x w' =>
  cases x with
  | enter f args => exact ⟨hde, CallsIn.inRound l (callsIn_wide.2 h)⟩
  | row r args => exact ⟨hde, fun c cs _ => by
    obtain ⟨v, w2, hr, hs⟩ := h c cs
    exact ⟨v, w2, hr, stepsIn_wide.2 hs⟩⟩
  | round _ _ _ _ _ => exact h.elim
  | _ => exact h
 | halt h0 w' => cases h0 <;> exact h
theorem wpOpIn_of_wpOp {l n i : Nat} (hd : ops.all noDefer = true) (hQ : ¬ LetsOut Q) {K K' : Act → World → Prop} (hK : ∀ a w, K a w → K' a w) {a : Act} {w : World} (h : wpOp P ops Q i K a w) : wpOpIn (Fence.wide.inRound l) n P ops Q i K' a w := by
 unfold wpOp at h
 unfold wpOpIn
 cases ho : ops[i]? with
 | none => rw [ho] at h; exact hK _ _ h
 | some o =>
  rw [ho] at h
  have hdo : noDefer o = true := Array.all_eq_true_iff_forall_mem.1 hd o (Array.mem_of_getElem? ho)
  simp only at h ⊢
  split at h
  ·rename_i hw
   rw [if_pos hw]
   rcases h with h | h
   ·exact wpIn_of_wp hdo (Oper.wp_mono hK h)
   ·exact absurd h.2 hQ
  ·rename_i hw
   rw [if_neg hw]
   exact ⟨fun _ _ => trivial, hK _ _ h⟩
theorem wpAnyIn_of_held {l n : Nat} {md : Region.Mode} {S : World → Prop} (hd : ops.all noDefer = true) (hQ : ¬ LetsOut Q) : ∀ (fuel : Nat) (listed : Array Bool) (a : Act) (w : World), wpAnyH P md ops Q S fuel listed a w → wpAnyIn (Fence.wide.inRound l) n P md ops Q fuel listed a w
 | 0, _, _, _, h => h
 | fuel + 1, _, _, _, h => ⟨h.1, fun i hi => wpOpIn_of_wpOp hd hQ (fun a w h => wpAnyIn_of_held hd hQ fuel _ a w h.2) (h.2 i hi)⟩
/-- A region that draws its order, in a round. -/
theorem wpIn_region_held {l n id : Nat} {S : World → Prop} {a : Act} {w : World} (hm : P.follows .mixedOrders = true) (hd : ops.all noDefer = true) (hQ : ¬ LetsOut Q) (hS : S w.drew)
  (h : S w.drew → wpAnyH P .any ops Q S ops.size (Array.replicate ops.size false) a w.drew) : (Code.region id ops true).wpIn (Fence.wide.inRound l) n P Q a w :=
 wpIn_region_any hm (wpAnyIn_of_held hd hQ _ _ _ _ (h hS))
/-- What is asked of a region that is left in no other way than off its end. -/
def calmQ (Q : Exit → Act → World → Prop) : Exit → Act → World → Prop
 | .normal, a, w => Q .normal a w
 | _, _, _ => False
theorem calm_out : ¬ LetsOut (calmQ Q) := fun ⟨_, _, h⟩ => h
theorem wp_region_calm {id : Nat} {S : World → Prop} {a : Act} {w : World} (hm : P.follows .mixedOrders = true) (hS : S w.drew)
  (h : S w.drew → wpAnyH P .any ops (calmQ Q) S ops.size (Array.replicate ops.size false) a w.drew) : (Code.region id ops true).wp P Q a w :=
 wp_mono (wp_region_held_drew hm hS h) (fun e a w hq => by cases e <;> first | exact hq | exact hq.elim)
theorem wpIn_region_calm {l n id : Nat} {S : World → Prop} {a : Act} {w : World} (hm : P.follows .mixedOrders = true) (hd : ops.all noDefer = true) (hS : S w.drew)
  (h : S w.drew → wpAnyH P .any ops (calmQ Q) S ops.size (Array.replicate ops.size false) a w.drew) : (Code.region id ops true).wpIn (Fence.wide.inRound l) n P Q a w :=
 wpIn_mono (wpIn_region_held hm hd calm_out hS h) (fun e a w hq => by cases e <;> first | exact hq | exact hq.elim)
theorem wpAnyH_calm {md : Region.Mode} {S : World → Prop} {listed : Array Bool} {a : Act} {w : World} (hr : Region.ready md ops listed = []) (h : Q .normal a w) : ∀ fuel, wpAnyH P md ops (calmQ Q) S fuel listed a w :=
 wpAnyH_done hr h
theorem wpListIn_of_wpList {l n : Nat} (hQ : ¬ LetsOut Q) : ∀ (rest : List Oper), (∀ o ∈ rest, noDefer o = true) → ∀ (a : Act) (w : World), wpList P ops Q rest a w → wpListIn (Fence.wide.inRound l) n P ops Q rest a w
 | [], _, _, _, h => h
 | o :: rest, hd, a, w, h => by
  have ih := wpListIn_of_wpList (l := l) (n := n) hQ rest (fun x hx => hd x (List.mem_cons_of_mem _ hx))
  unfold wpList at h
  unfold wpListIn
  split at h
  ·rename_i hw
   rw [if_pos hw]
   rcases h with h | h
   ·exact wpIn_of_wp (hd o List.mem_cons_self) (Oper.wp_mono (fun a w h => ih a w h) h)
   ·exact absurd h.2 hQ
  ·rename_i hw
   rw [if_neg hw]
   exact ⟨fun _ _ => trivial, ih _ _ h⟩
/-- A region that draws nothing, in a round, walked in the open. -/
theorem wpIn_region_open {l n id : Nat} {a : Act} {w : World} (hd : ops.all noDefer = true) (h : ∀ K : Act → World → Prop, (∀ a w, Q .normal a w → K a w) → wpList P ops (Exit.then K (fun _ _ _ => False)) ops.toList a w) :
  (Code.region id ops false).wpIn (Fence.wide.inRound l) n P Q a w :=
 wpIn_mono (wpIn_region_list (wpListIn_of_wpList (fun ⟨_, _, h⟩ => h) ops.toList (fun o ho => Array.all_eq_true_iff_forall_mem.1 hd o (by simpa using ho)) a w (h (Q .normal) (fun _ _ h => h)))) (fun e a w hq => by cases e <;> first | exact hq | exact hq.elim)
end Go.Proofs.YtbnflbkaogpnbaaGreat
namespace Go.Proofs.YtbnflbkaogpnbaaGreat
open Go.RowKit Go.Shelf
attribute [local go_sem] Oper.semAt_some
/-- The k-th chunk of 128 of a row. -/
def chunkV (b off len k : Nat) : Value := .slice (some ⟨b, off + 128 * k, none⟩) (min 128 (len - 128 * k)) (min 128 (len - 128 * k))
set_option maxRecDepth 100000 in
set_option maxHeartbeats 2000000 in
theorem chunk1_in (n : Nat) (hn : 1 ≤ n) (l Bs Bn b off len cap : Nat) (hlen : len ≤ 1000000) (hcap : len ≤ cap) (_hcm : cap ≤ 9223372036854775807) (J Jx : List Nat → World → Prop) (W : World)
  (hBs : W.cell? ⟨Bs, 0, none⟩ = some (.slice (some ⟨b, off, none⟩) len cap)) (hBn : W.cell? ⟨Bn, 0, none⟩ = some (.int .i64 128)) (hls : Bs < W.heap.size) (hln : Bn < W.heap.size)
  (hY : ∀ pre x X0 X, J pre X0 → W.heap.size ≤ X0.heap.size → Kept [] X0 X → x < (len + 127) / 128 ∧ pre = List.range x → YieldAt Fence.wide (n - 1) Tryz.prog l #[chunkV b off len x] X fun e Y =>
   (e = .returned (.bool true) ∧ J (pre ++ [x]) Y ∧ Stays [Bs, Bn] X Y) ∨ (e = .returned (.bool false) ∧ Jx (pre ++ [x]) Y ∧ X.heap.size ≤ Y.heap.size))
  (h0 : J [] W) :
  CallsIn Fence.wide n Tryz.prog 77 #[.func (.yield l) #[] #[], .pointer (some ⟨Bs, 0, none⟩), .pointer (some ⟨Bn, 0, none⟩)] W fun e Y => (∃ v, e = .returned v) ∧
   ((∃ ys, ys = List.range ((len + 127) / 128) ∧ J ys Y) ∨ (∃ pre, (∃ k, k ≤ (len + 127) / 128 ∧ pre = List.range k) ∧ Jx pre Y)) := by
 refine callsIn_of_wp Tryz.func77 rfl trivial ?_ rfl
 simp only [Tryz.ntmps77, List.size_toArray, List.length_cons, List.length_nil, Nat.reduceAdd, Nat.reduceSub, Array.replicate_succ, Array.replicate_zero, List.push_toArray, List.append_toArray, List.nil_append, List.cons_append]
 gi_wp2
 gi_loopw [4] (fun i wr => ∃ k : Nat, k ≤ (len + 127) / 128 ∧ i = .int .i64 ((128 * k : Nat) : Int) ∧ J (List.range k) wr ∧ Stays [Bs, Bn] W wr)
  (fun i _ => len + 128 - (intOf i).toNat)
 case atStart => exact ⟨0, Nat.zero_le _, rfl, h0, Stays.refl _ _⟩
 case round =>
  obtain ⟨k, hk, rfl, hJs, hst⟩ := hrel
  have c1 := (World.cell?_of_block (a := ⟨Bs, 0, none⟩) (hst.same Bs (by simp) hls)).trans hBs
  have c2 := (World.cell?_of_block (a := ⟨Bn, 0, none⟩) (hst.same Bn (by simp) hln)).trans hBn
  by_cases hlt : k < (len + 127) / 128
  ·have i1 : ((128 * k : Nat) : Int) < (len : Int) := by omega
   obtain ⟨fn, tmps, assign, body, hy, hR⟩ := hY (List.range k) k wr wr.drew hJs hst.size (Kept.drew [] wr) ⟨hlt, rfl⟩
   dsimp only [chunkV] at hy
   have hmin : min (128 : Int) ((len - 128 * k : Nat) : Int) = ((min 128 (len - 128 * k) : Nat) : Int) := by omega
   have hq : min 128 (len - 128 * k) ≤ 128 ∧ 128 * k + min 128 (len - 128 * k) ≤ len ∧ 128 * k ≤ len ∧ 0 < min 128 (len - 128 * k) := by omega
   have hq0 : ¬ min 128 (len - 128 * k) = 0 := by omega
   have hrs : List.range (k + 1) = List.range k ++ [k] := List.range_succ
   rw [← hrs] at hR
   have c1' : wr.drew.cell? ⟨Bs, 0, none⟩ = some (.slice (some ⟨b, off, none⟩) len cap) := c1
   have c2' : wr.drew.cell? ⟨Bn, 0, none⟩ = some (.int .i64 128) := c2
   gi_wp2
   refine wpIn_wide.2 ?_
   go_region
   clear hmin
   generalize min 128 (len - 128 * k) = q at *
   gi_wp2
   refine hR.mono ?_
   clear hR hy
   rintro e W3 (⟨rfl, hJ3, hk3⟩ | ⟨rfl, hJx3, hsz3⟩)
   ·have c3 := (World.cell?_of_block (a := ⟨Bn, 0, none⟩) (hk3.same Bn (by simp) (Nat.lt_of_lt_of_le hln hst.size))).trans c2'
    gi_wp2
    go_roundw
    case rel => exact ⟨k + 1, by omega, by go_num, hJ3, hst.trans ⟨hk3.size, hk3.same⟩⟩
    case measure => simp [intOf]; omega
   ·gi_wp2
    refine bodyPost_ret (results_none rfl _ _ _) rfl ?_
    exact ⟨⟨_, rfl⟩, .inr ⟨_, ⟨k + 1, by omega, rfl⟩, hJx3⟩⟩
  ·have i1 : ¬ ((128 * k : Nat) : Int) < (len : Int) := by omega
   obtain rfl : k = (len + 127) / 128 := by omega
   gi_wp2
   go_end0
   exact ⟨⟨_, rfl⟩, .inl hJs⟩
/-- slices.Chunk(row, 128): its value. -/
theorem chunk_any (w : World) (A : Option Addr) (len cap : Nat) : Calls Tryz.prog 40 #[.slice A len cap, .int .i64 128] w fun e w' =>
  e = .returned (.func (.func 77) #[] #[.pointer (some ⟨w.heap.size, 0, none⟩), .pointer (some ⟨w.heap.size + 1, 0, none⟩)]) ∧ w' = (w.alloc (.cells #[.slice A len cap] 45)).alloc (.cells #[.int .i64 128] 3) := by
 have hb : ((w.alloc (.cells #[.slice A len cap] 45)).alloc (.cells #[.int .i64 128] 3)).cell? ⟨w.heap.size + 1, 0, none⟩ = some (.int .i64 128) := by
  have h := heap_alloc_new (w.alloc (.cells #[.slice A len cap] 45)) (.cells #[.int .i64 128] 3)
  simp only [World.size_alloc] at h
  rw [blk_cell h]; rfl
 go_enter Tryz.func40, Tryz.ntmps40
 go_wp2
 go_ret
 exact ⟨rfl, rfl⟩
/-- What Chunk's value promises. -/
theorem chunk_seq (n : Nat) (hn : 1 ≤ n) (Bs Bn b off len cap : Nat) (hlen : len ≤ 1000000) (hcap : len ≤ cap) (hcm : cap ≤ 9223372036854775807) (w : World)
  (hBs : w.cell? ⟨Bs, 0, none⟩ = some (.slice (some ⟨b, off, none⟩) len cap)) (hBn : w.cell? ⟨Bn, 0, none⟩ = some (.int .i64 128)) (hls : Bs < w.heap.size) (hln : Bn < w.heap.size) :
  SeqAt Fence.wide n Tryz.prog 77 #[.pointer (some ⟨Bs, 0, none⟩), .pointer (some ⟨Bn, 0, none⟩)] (fun k : Nat => #[chunkV b off len k]) [] [Bs, Bn] (fun pre _ k _ => k < (len + 127) / 128 ∧ pre = List.range k)
   (fun ys => ys = List.range ((len + 127) / 128)) (fun pre => ∃ k, k ≤ (len + 127) / 128 ∧ pre = List.range k) w := fun l J Jx W hW hJ hJx hY h0 => by
 refine (chunk1_in n hn l Bs Bn b off len cap hlen hcap hcm J Jx W ((hW.cell (p := ⟨Bs, 0, none⟩) hls (by simp)).trans hBs) ((hW.cell (p := ⟨Bn, 0, none⟩) hln (by simp)).trans hBn) (Nat.lt_of_lt_of_le hls hW.size) (Nat.lt_of_lt_of_le hln hW.size) hY h0).mono ?_
 rintro e Y ⟨he, h⟩
 exact ⟨he, h⟩
end Go.Proofs.YtbnflbkaogpnbaaGreat
namespace Go.Proofs.YtbnflbkaogpnbaaGreat
/-- The bytes of the sectors from one on. -/
def Dev.bytesAt (d : Dev) (first : Nat) : List UInt8 := (d.secs.drop first).flatten
/-- A sector's bytes, noughts behind. -/
def pad (c : List UInt8) : Blk := c ++ List.replicate (128 - c.length) 0
theorem length_pad {c : List UInt8} (h : c.length ≤ 128) : (pad c).length = 128 := by simp [pad]; omega
/-- Writes, one sector behind the other, till one is refused. -/
def Dev.writes (d : Dev) (q : Int) : List Blk → Dev × Int
 | [] => (d, 0)
 | c :: r => if (d.write q c).2 = 0 then (d.write q c).1.writes (q + 1) r else d.write q c
def chunks (b : List UInt8) : List (List UInt8) := (List.range ((b.length + 127) / 128)).map fun i => (b.drop (128 * i)).take 128
structure St where
 first : Nat
 many : Nat
 fin : Nat
 last : List UInt8
namespace St
/-- What a strip and its device are behind an Append, and what it answers. -/
def append (s : St) (d : Dev) (b : List UInt8) : St × Dev × Int :=
 if 16384 < b.length then (s, d, 5)
 else if (128 * s.many : Int) - s.fin < b.length + 7 then (s, d, 101)
 else
  let all := s.last ++ recB b
  let r := d.writes (s.first + s.fin / 128 : Nat) ((chunks all).map pad)
  if r.2 = 0 then ({ s with fin := s.fin + (b.length + 7), last := all.drop (all.length - all.length % 128) }, r.1, 0) else (s, r.1, r.2)
/-- What every strip is that was opened. -/
structure Wf (s : St) (d : Dev) : Prop where
 one : 1 ≤ s.many
 there : s.first + s.many ≤ d.secs.length
 fin : s.fin ≤ 128 * s.many
 last : s.last.length = s.fin % 128
end St
theorem writes_len : ∀ (cs : List Blk) (d : Dev) (q : Int), (d.writes q cs).1.secs.length = d.secs.length := by
 have hw : ∀ (d : Dev) (q : Int) (c : Blk), (d.write q c).1.secs.length = d.secs.length := fun d q c => by
  unfold Dev.write
  split
  ·rfl
  ·split
   ·rfl
   ·split
    ·rfl
    ·split
     ·simp [Dev.gone, Dev.length_backs, Dev.midst]
     ·simp [Dev.counted, Dev.midst]
 intro cs
 induction cs with
 | nil => intro d q; rfl
 | cons c cs ih =>
  intro d q
  rw [Dev.writes]
  split
  ·rw [ih, hw]
  ·exact hw d q c
/-- A device that neither fails nor refuses. -/
structure Dev.Calm (d : Dev) : Prop where
 dead : d.dead = false
 fail : d.fail = -1
 till : d.till = -1
 size : ∀ b ∈ d.secs, b.length = 128
/-- What was sure when it was flushed last. -/
def Dev.Sure (d : Dev) (s : List Blk) : Prop := s.length = d.secs.length ∧ ∀ i, match Dev.look d.sure i with
 | some b => i < s.length ∧ s[i]? = some b
 | none => s[i]? = d.secs[i]?
theorem Dev.Sure.new (n : Nat) : (Dev.new n).Sure (Dev.new n).secs := ⟨rfl, fun i => by simp [Dev.new, Dev.look]⟩
/-- A write of a calm device. -/
theorem Dev.Calm.write {d : Dev} (h : d.Calm) {i : Nat} (hi : i < d.secs.length) {b : Blk} (hb : b.length = 128) :
  d.write (i : Int) b = ((d.midst i b).counted, 0) ∧ (d.midst i b).counted.Calm ∧ (d.midst i b).counted.secs = d.secs.set i b ∧ (d.midst i b).counted.works = d.works + 1 ∧ ∀ s, d.Sure s → (d.midst i b).counted.Sure s := by
 have hat : d.at_ (i : Int) = 0 := by simp [Dev.at_, h.dead]; omega
 refine ⟨write_ok hat hb (by rw [h.till]; decide) (by rw [h.fail]; decide), ⟨h.dead, ?_, ?_, ?_⟩, rfl, rfl, ?_⟩
 ·show max (d.fail - 1) (-1) = -1; rw [h.fail]; decide
 ·show max (d.till - 1) (-1) = -1; rw [h.till]; decide
 ·intro c hc
  rcases List.mem_or_eq_of_mem_set hc with h1 | h1
  ·exact h.size c h1
  ·rw [h1]; exact hb
 ·rintro s ⟨hl, hs⟩
  refine ⟨by simpa [Dev.counted, Dev.midst] using hl, fun j => ?_⟩
  have hj := hs j
  have hi2 := hs i
  simp only [Dev.counted, Dev.midst]
  cases hli : Dev.look d.sure i with
  | some v =>
   rw [hli] at hi2
   simp only [Option.isSome_some, if_true]
   cases hlj : Dev.look d.sure j with
   | some v2 => rw [hlj] at hj; exact hj
   | none =>
    rw [hlj] at hj
    have hne : i ≠ j := by rintro rfl; rw [hli] at hlj; cases hlj
    simp only at hj ⊢
    rw [List.getElem?_set_ne hne]
    exact hj
  | none =>
   rw [hli] at hi2
   simp only [Option.isSome_none, Bool.false_eq_true, if_false]
   rw [look_append _ _ _ _ hli]
   by_cases hji : j = i
   ·subst hji
    simp only [if_true] at hi2 ⊢
    refine ⟨by omega, ?_⟩
    rw [hi2, List.getElem?_eq_getElem hi]
    rfl
   ·rw [if_neg hji]
    cases hlj : Dev.look d.sure j with
    | some v2 => rw [hlj] at hj; exact hj
    | none =>
     rw [hlj] at hj
     simp only at hj ⊢
     rw [List.getElem?_set_ne (fun e => hji e.symm)]
     exact hj
theorem Dev.Calm.new (n : Nat) : (Dev.new n).Calm := ⟨rfl, rfl, rfl, fun b hb => by simp [Dev.new] at hb; rw [hb.2, length_zeros]⟩
theorem set_eq_splice {l : List Blk} {q : Nat} (h : q < l.length) (c : Blk) : l.set q c = l.take q ++ c :: l.drop (q + 1) := by
 rw [List.set_eq_take_append_cons_drop, if_pos h]
/-- Writes of a calm device. -/
theorem Dev.Calm.writes : ∀ (cs : List Blk) {d : Dev} (_ : d.Calm) {q : Nat}, q + cs.length ≤ d.secs.length → (∀ c ∈ cs, c.length = 128) →
  ∃ d', d.writes (q : Int) cs = (d', 0) ∧ d'.Calm ∧ d'.secs = d.secs.take q ++ cs ++ d.secs.drop (q + cs.length) ∧ d'.works = d.works + cs.length ∧ ∀ s, d.Sure s → d'.Sure s := by
 intro cs
 induction cs with
 | nil => intro d h q _ _; exact ⟨d, rfl, h, by simp, by simp, fun s hs => hs⟩
 | cons c cs ih =>
  intro d h q hq hc
  simp only [List.length_cons] at hq
  obtain ⟨h1, h2, h3, h4, h5⟩ := h.write (i := q) (by omega) (hc c List.mem_cons_self)
  obtain ⟨d', e1, e2, e3, e4, e5⟩ := ih (d := (d.midst q c).counted) h2 (q := q + 1) (by rw [h3]; simp; omega) (fun x hx => hc x (List.mem_cons_of_mem _ hx))
  refine ⟨d', ?_, e2, ?_, ?_, fun s hs => e5 s (h5 s hs)⟩
  ·rw [Dev.writes, h1]
   simp only [if_true]
   exact e1
  ·rw [e3, h3, set_eq_splice (by omega)]
   have hl : (d.secs.take q ++ [c]).length = q + 1 := by simp; omega
   rw [show d.secs.take q ++ c :: d.secs.drop (q + 1) = (d.secs.take q ++ [c]) ++ d.secs.drop (q + 1) by simp]
   rw [List.take_append_of_le_length (by omega), List.take_of_length_le (by omega), List.drop_append, hl, List.drop_of_length_le (by omega), List.nil_append, List.drop_drop]
   simp only [List.append_assoc, List.cons_append, List.nil_append, List.length_cons]
   congr 4
   omega
  ·rw [e4, h4, List.length_cons]; omega
end Go.Proofs.YtbnflbkaogpnbaaGreat
