/- Texts in one: X7 Y0 Y1 X8 X9. -/
import Derived.Test.YtbnflbkaogpnbaaGreatPAL
import Derived.Deep.AppendLies
import Derived.Deep.RegionLaw
namespace Go.Proofs.YtbnflbkaogpnbaaGreat
open Go.RowKit
theorem info_refone : (Tryz.prog.info? 105).map (fun i => (i.zero, i.size, i.bytes)) = some (some (.agg #[.slice none 0 0, .slice none 0 0, .bool false]), 3, 56) := by kernel_rfl
/-- What a new one has. -/
def RS.new (n : Nat) : RS := { n := n, now := fun _ => zeros, sure := fun _ => zeros, wrote := fun _ => false, fail := -1, keep := [], till := -1, works := 0, dead := false, refuses := false }
/-- A new sector. -/
structure OneNew (w : World) (r : Nat) (g : Option Nat) (o : One) : Prop where
 now : SlAt w o.nA 128 o.nc (u8vs zeros)
 sure : SlAt w o.sA 128 o.sc (u8vs zeros)
 wr : o.wrote = false
 nb : ∀ p, o.nA = some p → r < p.block ∧ g ≠ some p.block
 sb : ∀ p, o.sA = some p → r < p.block ∧ g ≠ some p.block
structure NewAt (w : World) (r k : Nat) (l : List One) (v : Value) (wr : World) : Prop where
 len : l.length = k
 head : wr.heap[r]? = some (.cells #[v, .int .i64 (-1), .slice none 0 0, .int .i64 (-1), .int .i64 0, .bool false, .bool false] 103 (0, 0))
 own : wr.ownsRow (r + 1) 105 3 v k (ones l)
 all : ∀ o ∈ l, OneNew wr r v.ownBlock o
 kept : Kept [] w wr
 old : w.heap.size ≤ r
def Z128 : Obj := .cells (madeCells #[.int .u8 0] 128) 5
theorem made_zeros : (madeCells #[.int .u8 0] 128) = (u8vs zeros).toArray := by
 apply Array.ext'
 rw [toList_madeCells_one]
 simp [u8vs, zeros, u8v]
/-- A row of noughts that was just made. -/
theorem SlAt.zeros {w : World} {a : Nat} (h : w.heap[a]? = some Z128) : SlAt w (some ⟨a, 0, none⟩) 128 128 (u8vs zeros) := by
 refine ⟨by simp [u8vs, length_zeros], Nat.le_refl _, by unfold maxLen; omega, fun _ => ⟨a, 0, rfl, World.lt_of_heap h, fun i hi => ?_⟩⟩
 rw [blk_cell h, made_zeros, List.getElem?_toArray, Nat.zero_add]
theorem OneNew.kept {w w' : World} {r : Nat} {g g' : Option Nat} {o : One} {F : List Nat} (h : OneNew w r g o) (hk : Kept F w w') (hF : ∀ j ∈ F, some j = g ∨ j = r) (hg : g' = g ∨ ∃ j, g' = some j ∧ w.heap.size ≤ j) : OneNew w' r g' o := by
 have hh : ∀ p : Addr, r < p.block ∧ g ≠ some p.block → p.block ∉ F := fun p ⟨h1, h2⟩ hm => by
  rcases hF _ hm with e | e
  ·exact h2 e.symm
  ·omega
 have hb : ∀ p : Addr, p.block < w.heap.size → r < p.block ∧ g ≠ some p.block → r < p.block ∧ g' ≠ some p.block := fun p hl ⟨h1, h2⟩ => by
  rcases hg with e | ⟨j, e, hj⟩
  ·rw [e]; exact ⟨h1, h2⟩
  ·rw [e]; exact ⟨h1, fun e2 => by cases e2; omega⟩
 exact ⟨h.now.kept hk (fun p e => hh p (h.nb p e)), h.sure.kept hk (fun p e => hh p (h.sb p e)), h.wr, fun p e => hb p (h.now.lt (by omega) e) (h.nb p e), fun p e => hb p (h.sure.lt (by omega) e) (h.sb p e)⟩
theorem NewAt.step {w : World} {r k : Nat} {l : List One} {v : Value} {wr W w1 : World} (h : NewAt w r k l v wr) (a b gg cap : Nat) (hab : a = wr.heap.size ∧ b = wr.heap.size + 1 ∨ a = wr.heap.size + 1 ∧ b = wr.heap.size)
  (hW : W = (((wr.alloc Z128).alloc Z128).alloc (.cells #[.slice (some ⟨a, 0, none⟩) 128 128, .slice (some ⟨b, 0, none⟩) 128 128, .bool false] 105)).drew)
  (hown : w1.ownsRow (r + 1) 105 3 (.slice (some ⟨gg, 0, none⟩) (k + 1) cap) (k + 1) (ones l ++ [.slice (some ⟨a, 0, none⟩) 128 128, .slice (some ⟨b, 0, none⟩) 128 128, .bool false]))
  (hgrow : W.grownBy w1 v.ownBlock) (hat : v.ownBlock = some gg ∨ gg = wr.heap.size + 3) :
  NewAt w r (k + 1) (l ++ [⟨some ⟨a, 0, none⟩, 128, some ⟨b, 0, none⟩, 128, false⟩]) (.slice (some ⟨gg, 0, none⟩) (k + 1) cap) (w1.setCell ⟨r, 0, none⟩ (.slice (some ⟨gg, 0, none⟩) (k + 1) cap)) := by
 have hrs := World.lt_of_heap h.head
 have hkW : Kept [] wr W := by
  subst hW
  exact (((Kept.alloc [] _ _).trans (Kept.alloc [] _ _)).trans (Kept.alloc [] _ _)).trans (Kept.drew [] _)
 have hWs : W.heap.size = wr.heap.size + 3 := by subst hW; simp [World.drew]
 have hlt := h.own.lt
 have hrne : some r ≠ v.ownBlock := fun e => by have := hlt r e.symm; omega
 obtain ⟨F, hF⟩ : ∃ F : List Nat, ∀ j, j ∈ F ↔ v.ownBlock = some j := ⟨v.ownBlock.toList, fun j => by simp⟩
 have hk1 : Kept F W w1 := Kept.grown hgrow (fun j e => .inl ((hF j).2 e))
 have hk2 : Kept [r] w1 (w1.setCell ⟨r, 0, none⟩ (.slice (some ⟨gg, 0, none⟩) (k + 1) cap)) := Kept.setCell (by simp) _
 have hk3 : Kept (r :: F) W (w1.setCell ⟨r, 0, none⟩ (.slice (some ⟨gg, 0, none⟩) (k + 1) cap)) := (hk1.mono (fun i hi => .inl (List.mem_cons_of_mem _ hi))).trans (hk2.mono (fun i hi => .inl (by simp at hi; simp [hi])))
 have hk4 : Kept (r :: F) wr (w1.setCell ⟨r, 0, none⟩ (.slice (some ⟨gg, 0, none⟩) (k + 1) cap)) := (hkW.mono (by simp)).trans hk3
 have hFF : ∀ j ∈ r :: F, some j = v.ownBlock ∨ j = r := fun j hj => by
  rcases List.mem_cons.1 hj with e | e
  ·exact .inr e
  ·exact .inl ((hF j).1 e).symm
 have hold := h.old
 have hgr : r + 1 ≤ gg := (hown.lt gg rfl).1
 have hza : W.heap[a]? = some Z128 ∧ W.heap[b]? = some Z128 := by
  have e0 : (wr.alloc Z128).heap[wr.heap.size]? = some Z128 := heap_alloc_new wr Z128
  have e1 : ((wr.alloc Z128).alloc Z128).heap[wr.heap.size]? = some Z128 := by rw [Below.heap_alloc _ _ _ (by simp)]; exact e0
  have e2 : ((wr.alloc Z128).alloc Z128).heap[wr.heap.size + 1]? = some Z128 := by
   have := heap_alloc_new (wr.alloc Z128) Z128
   simpa using this
  subst hW
  have e3 : ∀ j o, j < wr.heap.size + 2 → (((wr.alloc Z128).alloc Z128).alloc o).drew.heap[j]? = ((wr.alloc Z128).alloc Z128).heap[j]? := fun j o hj => Below.heap_alloc _ _ _ (by simp; omega)
  rcases hab with ⟨rfl, rfl⟩ | ⟨rfl, rfl⟩
  ·exact ⟨(e3 _ _ (by omega)).trans e1, (e3 _ _ (by omega)).trans e2⟩
  ·exact ⟨(e3 _ _ (by omega)).trans e2, (e3 _ _ (by omega)).trans e1⟩
 have habn : wr.heap.size ≤ a ∧ wr.heap.size ≤ b ∧ a < wr.heap.size + 2 ∧ b < wr.heap.size + 2 := by omega
 have hgne : ∀ j, wr.heap.size ≤ j → j < wr.heap.size + 2 → gg ≠ j := fun j h1 h2 e => by
  subst e
  rcases hat with e | e
  ·have := hlt gg e; omega
  ·omega
 have hnF : ∀ j, wr.heap.size ≤ j → j ∉ r :: F := fun j h1 hm => by
  rcases hFF j hm with e | e
  ·have := hlt j e.symm; omega
  ·omega
 refine ⟨by simp [h.len], ?_, ?_, ?_, ?_, h.old⟩
 ·have e1 : w1.heap[r]? = some (.cells #[v, .int .i64 (-1), .slice none 0 0, .int .i64 (-1), .int .i64 0, .bool false, .bool false] 103 (0, 0)) :=
   (hgrow.block r (by omega) hrne).trans ((hkW.block r hrs (by simp)).trans h.head)
  rw [heap_set e1]
  rfl
 ·rw [ones_snoc]
  exact ownsRow_setCell_below hown (by show r < r + 1; omega) _
 ·intro o ho
  rcases List.mem_append.1 ho with h1 | h1
  ·refine (h.all o h1).kept hk4 hFF ?_
   rcases hat with e | e
   ·exact .inl e.symm
   ·exact .inr ⟨gg, rfl, by omega⟩
  ·simp only [List.mem_singleton] at h1
   subst h1
   refine ⟨(SlAt.zeros hza.1).kept hk3 (fun p e => by cases e; exact hnF a habn.1), (SlAt.zeros hza.2).kept hk3 (fun p e => by cases e; exact hnF b habn.2.1), rfl, fun p e => ?_, fun p e => ?_⟩
   ·cases e
    exact ⟨by show r < a; omega, fun e => hgne a habn.1 habn.2.2.1 (by simpa [Value.ownBlock] using e)⟩
   ·cases e
    exact ⟨by show r < b; omega, fun e => hgne b habn.2.1 habn.2.2.2 (by simpa [Value.ownBlock] using e)⟩
 ·refine h.kept.trans' hk4 (fun j hj => ?_)
  rcases hFF j hj with e | e
  ·have := hlt j e.symm; exact .inr (by omega)
  ·exact .inr (by omega)
/-- At the end. -/
theorem NewAt.done {w : World} {r k : Nat} {l : List One} {v : Value} {wr : World} (h : NewAt w r k l v wr) (h1 : 1 ≤ k) (h2 : k ≤ 8192) :
  ∃ B cap fp, RefAt wr r B cap l fp (RS.new k) ∧ ∀ j ∈ fp, w.heap.size ≤ j := by
 obtain ⟨hl, hh⟩ := h.own
 rcases hh with ⟨_, e⟩ | ⟨g, cap, cur, rfl, hb, hg, hnc, hcm, hs, ht⟩
 ·omega
 ·have hrs := World.lt_of_heap h.head
  have hold := h.old
  obtain ⟨fp, hfp⟩ : ∃ fp : List Nat, ∀ j, j ∈ fp ↔ r ≤ j ∧ j < wr.heap.size := ⟨(List.range wr.heap.size).filter (r ≤ ·), fun j => by simp [and_comm]⟩
  have hg2 := World.lt_of_heap hg
  have hlen := h.len
  refine ⟨g, cap, fp, ⟨⟨none, 0, 0, by rw [hlen]; exact h.head, SlAt.nil _, by simp, by simp [RS.new]⟩, ⟨⟨cur, hg, by omega, fun i o hi j hj => ?_⟩, by omega, hcm⟩, by rw [hlen]; rfl, fun i o hi => ?_, by omega, (hfp r).2 ⟨Nat.le_refl _, hrs⟩, (hfp g).2 ⟨by omega, hg2⟩, by omega, fun j hj => ((hfp j).1 hj).2⟩, fun j hj => by have := (hfp j).1 hj; omega⟩
  ·have h3 := (List.getElem?_eq_some_iff.1 hi).1
   have h4 := ones_at hi hj
   rw [← ht, List.getElem?_take, if_pos (by omega), Array.getElem?_toList] at h4
   exact h4
  ·have ho := h.all o (List.mem_of_getElem? hi)
   exact ⟨ho.now, ho.sure, ho.wr, fun p e => ⟨(hfp _).2 ⟨by have := (ho.nb p e).1; omega, ho.now.lt (by omega) e⟩, by have := (ho.nb p e).1; omega, fun e2 => (ho.nb p e).2 (by rw [e2]; rfl)⟩,
    fun p e => ⟨(hfp _).2 ⟨by have := (ho.sb p e).1; omega, ho.sure.lt (by omega) e⟩, by have := (ho.sb p e).1; omega, fun e2 => (ho.sb p e).2 (by rw [e2]; rfl)⟩⟩
def RefNewPost (w : World) (n : Nat) (e : Ending) (w' : World) : Prop :=
 ∃ r B cap l fp, e = .returned (.tuple #[.pointer (some ⟨r, 0, none⟩), .int .i64 0]) ∧ RefAt w' r B cap l fp (RS.new n) ∧ Kept [] w w' ∧ ∀ j ∈ fp, w.heap.size ≤ j
def NwRel (w : World) (r n : Nat) (i : Value) (wr : World) : Prop := ∃ k l v, k ≤ n ∧ i = .int .i64 (k : Nat) ∧ NewAt w r k l v wr
set_option maxHeartbeats 2000000 in
set_option maxRecDepth 100000 in
theorem refNew_any (n : Nat) (w : World) (h1 : 1 ≤ n) (h2 : n ≤ 8192) :
    Calls Tryz.prog 32 #[.int .i64 n] w (RefNewPost w n) := by
  obtain ⟨i0, hi0, hz0, hz1, hz2⟩ := info_parts info_refone
  obtain ⟨j0, hj0, ju0, ju1, ju2⟩ := info_parts info_u8
  have hmk := fun wx : World => run_make (P := Tryz.prog) wx 45 5 j0 _ Tryz.underlying45 hj0 ju0 .i64 .i64 128 128 (by omega) (Int.le_refl _) (by rw [ju2]; omega) (by omega)
  simp only [ju1] at hmk
  have b1 : ¬ (n : Int) < 1 := by omega
  have b2 : ¬ (8192 : Int) < (n : Int) := by omega
  go_enter Tryz.func32, Tryz.ntmps32
  go_wp2_with fail
  go_loopw [5] (fun i wr => NwRel w w.heap.size n i wr) (fun i _ => n - (intOf i).toNat)
  case atStart =>
    refine ⟨0, [], .slice none 0 0, Nat.zero_le _, rfl, rfl, heap_alloc_new _ _, World.ownsRow_nil _ _ _ _, by simp, Kept.alloc [] _ _, Nat.le_refl _⟩
  case round =>
    obtain ⟨k, l, v, hk, rfl, hN⟩ := hrel
    by_cases hlt : k < n
    · have i1 : (k : Int) < (n : Int) := by omega
      have hrs := World.lt_of_heap hN.head
      have c0 : wr.cell? ⟨w.heap.size, 0, none⟩ = some v := by rw [blk_cell hN.head]; rfl
      have hS : ∀ W, Kept [] wr W → W.cell? ⟨w.heap.size, 0, none⟩ = some v := fun W hkW => (hkW.cell (p := ⟨w.heap.size, 0, none⟩) hrs (by simp)).trans c0
      have c1 : ∀ o, (wr.alloc o).cell? ⟨w.heap.size, 0, none⟩ = some v := fun o => hS _ (Kept.alloc [] _ _)
      have c2 : ∀ o p, ((wr.alloc o).alloc p).cell? ⟨w.heap.size, 0, none⟩ = some v := fun o p => hS _ ((Kept.alloc [] _ _).trans (Kept.alloc [] _ _))
      have hbs : ∀ o p q, (((wr.alloc o).alloc p).alloc q).heap[wr.heap.size + 1 + 1]? = some q := fun o p q => by
        have := heap_alloc_new ((wr.alloc o).alloc p) q
        simpa using this
      have hb1 : w.heap.size + 1 ≤ wr.heap.size + 3 := by omega
      have hb2 : k + 1 ≤ maxLen := by unfold maxLen; omega
      have hb3 : (k + 1) * 56 ≤ 140737488355328 := by omega
      have hno : v.ownBlock ≠ some w.heap.size := fun e => by have := hN.own.lt _ e; omega
      have c3 : ∀ o p q, (((wr.alloc o).alloc p).alloc q).drew.cell? ⟨w.heap.size, 0, none⟩ = some v := fun o p q => hS _ ((((Kept.alloc [] _ _).trans (Kept.alloc [] _ _)).trans (Kept.alloc [] _ _)).trans (Kept.drew [] _))
      have f3 : ∀ o p q, (((wr.alloc o).alloc p).alloc q).drew.frozen? ⟨w.heap.size, 0, none⟩ = false := fun o p q => ((((((Kept.alloc [] _ _).trans (Kept.alloc [] _ _)).trans (Kept.alloc [] _ _)).trans (Kept.drew [] _)) : Kept [] wr _).frozen (p := ⟨w.heap.size, 0, none⟩) hrs (by simp)).trans (blk_frozen hN.head 0)
      clear hS
      go_wp2_with fail
      go_region_law (first
        | (refine step_append_lies _ rfl (.tmp 23) (.tmp 27) _ rfl (w.heap.size + 1) 105 i0 _ 3 56 Tryz.underlying101 hi0 hz0 hz1 hz2 rfl (by omega) v k (ones l) (by simp [Act.eval]) ((((hN.own.alloc _).alloc _).alloc _).drew)
            ⟨wr.heap.size + 1 + 1, 0, none⟩ 1 1 [.slice (some ⟨wr.heap.size, 0, none⟩) 128 128, .slice (some ⟨wr.heap.size + 1, 0, none⟩) 128 128, .bool false] (by simp [Act.eval]) rfl (World.news_of_block (hbs _ _ _)) (by simp [Value.oneCell']) (by omega) hb2 hb3 (by simp; omega) (wr.heap.size + 3) (by simp [World.drew]) ?_
           intro gg cap w1 hown1 hgrow hat hlt1
           have hN' := hN.step (wr.heap.size) (wr.heap.size + 1) gg cap (.inl ⟨rfl, rfl⟩) rfl hown1 hgrow hat
           have hlr : w.heap.size < ((((wr.alloc Z128).alloc Z128).alloc (.cells #[.slice (some ⟨wr.heap.size, 0, none⟩) 128 128, .slice (some ⟨wr.heap.size + 1, 0, none⟩) 128 128, .bool false] 105)).drew).heap.size := by simp [World.drew]; omega
           have hc1 := (hgrow.cell_far ⟨w.heap.size, 0, none⟩ hlr (fun e => hno e.symm)).trans (c3 _ _ _)
           have hf1 := (hgrow.frozen_far ⟨w.heap.size, 0, none⟩ hlr (fun e => hno e.symm)).trans (f3 _ _ _)
           clear hown1 hgrow hat hlt1 hlr)
        | (refine step_append_lies _ rfl (.tmp 23) (.tmp 27) _ rfl (w.heap.size + 1) 105 i0 _ 3 56 Tryz.underlying101 hi0 hz0 hz1 hz2 rfl (by omega) v k (ones l) (by simp [Act.eval]) ((((hN.own.alloc _).alloc _).alloc _).drew)
            ⟨wr.heap.size + 1 + 1, 0, none⟩ 1 1 [.slice (some ⟨wr.heap.size + 1, 0, none⟩) 128 128, .slice (some ⟨wr.heap.size, 0, none⟩) 128 128, .bool false] (by simp [Act.eval]) rfl (World.news_of_block (hbs _ _ _)) (by simp [Value.oneCell']) (by omega) hb2 hb3 (by simp; omega) (wr.heap.size + 3) (by simp [World.drew]) ?_
           intro gg cap w1 hown1 hgrow hat hlt1
           have hN' := hN.step (wr.heap.size + 1) (wr.heap.size) gg cap (.inr ⟨rfl, rfl⟩) rfl hown1 hgrow hat
           have hlr : w.heap.size < ((((wr.alloc Z128).alloc Z128).alloc (.cells #[.slice (some ⟨wr.heap.size + 1, 0, none⟩) 128 128, .slice (some ⟨wr.heap.size, 0, none⟩) 128 128, .bool false] 105)).drew).heap.size := by simp [World.drew]; omega
           have hc1 := (hgrow.cell_far ⟨w.heap.size, 0, none⟩ hlr (fun e => hno e.symm)).trans (c3 _ _ _)
           have hf1 := (hgrow.frozen_far ⟨w.heap.size, 0, none⟩ hlr (fun e => hno e.symm)).trans (f3 _ _ _)
           clear hown1 hgrow hat hlt1 hlr))
      all_goals
        go_wp2_with fail
        go_roundw
        case rel => exact ⟨k + 1, _, _, by omega, by go_num, hN'⟩
        case measure => simp [intOf]; omega
    · obtain rfl : k = n := by omega
      have i1 : ¬ (k : Int) < (k : Int) := by omega
      obtain ⟨B, cap, fp, hR, hfp⟩ := hN.done h1 h2
      go_wp2_with fail
      go_ret2
      exact ⟨_, B, cap, l, fp, rfl, hR, hN.kept, hfp⟩
end Go.Proofs.YtbnflbkaogpnbaaGreat
namespace Go.Proofs.YtbnflbkaogpnbaaGreat
/-- s is d. -/
structure RS.Is (s : RS) (d : Dev) : Prop where
 n : s.n = d.secs.length
 now : ∀ i, i < s.n → d.secs[i]? = some (s.now i)
 sure : ∀ i, i < s.n → s.sure i = (Dev.look d.sure i).getD (s.now i)
 wrote : ∀ i, i < s.n → s.wrote i = (Dev.look d.sure i).isSome
 fail : s.fail = d.fail
 keep : s.keep = d.keep
 till : s.till = d.till
 works : s.works = d.works
 dead : s.dead = d.dead
 refuses : s.refuses = (s.till == 0)
theorem backs_snoc (keep : List Int) (f : Nat → Blk) (i : Nat) : ∀ (r : List Nat) (k : Nat) (s : List Blk),
  Dev.backs keep f k (r ++ [i]) s = if Dev.lost keep (k + r.length) then (Dev.backs keep f k r s).set i (f i) else Dev.backs keep f k r s := by
 intro r
 induction r with
 | nil => intro k s; simp [Dev.backs]
 | cons x r ih =>
  intro k s
  rw [List.cons_append, Dev.backs, ih, Dev.backs, List.length_cons]
  have e : k + 1 + r.length = k + (r.length + 1) := by omega
  rw [e]
theorem filter_lt_succ (l : List Nat) (h : l.Pairwise (· < ·)) (i : Nat) : l.filter (· < i + 1) = l.filter (· < i) ++ (if i ∈ l then [i] else []) := by
 induction l with
 | nil => rfl
 | cons x r ih =>
  obtain ⟨h1, h2⟩ := List.pairwise_cons.1 h
  have hi := ih h2
  by_cases hx : x < i
  ·have e1 : decide (x < i + 1) = true := decide_eq_true (by omega)
   have e2 : decide (x < i) = true := decide_eq_true hx
   rw [List.filter_cons_of_pos (by simpa using e1), List.filter_cons_of_pos (by simpa using e2), hi, List.cons_append]
   have : (i ∈ x :: r) ↔ i ∈ r := by simp; omega
   simp only [this]
  ·by_cases hxi : x = i
   ·subst hxi
    rw [List.filter_cons_of_pos (by simp), List.filter_cons_of_neg (by simp)]
    have e3 : r.filter (· < x + 1) = [] := by
     rw [List.filter_eq_nil_iff]
     intro a ha
     have := h1 a ha
     simp; omega
    have e4 : r.filter (· < x) = [] := by
     rw [List.filter_eq_nil_iff]
     intro a ha
     have := h1 a ha
     simp; omega
    rw [e3, e4]
    simp
   ·rw [List.filter_cons_of_neg (by simp; omega), List.filter_cons_of_neg (by simp; omega), hi]
    have : (i ∈ x :: r) ↔ i ∈ r := by simp; omega
    simp only [this]
theorem keys_pairwise {d : Dev} (h : d.Wf) : d.keys.Pairwise (· < ·) := by
 have h1 : d.keys.Pairwise (· ≤ ·) := by
  have := List.pairwise_mergeSort (le := fun a b : Nat => decide (a ≤ b)) (fun a b c h1 h2 => by simp at *; omega) (fun a b => by simp; omega) (d.sure.map (·.1))
  exact this.imp (fun h => by simpa using h)
 have h2 : d.keys.Nodup := (List.mergeSort_perm _ _).nodup_iff.2 h.nodup
 exact (h1.and h2).imp (fun ⟨a, b⟩ => Nat.lt_of_le_of_ne a b)
/-- Where the loop of gone is. -/
structure GoneIs (s : RS) (d : Dev) (keep : List Int) (i : Nat) (g : RS) (k : Nat) : Prop where
 count : k = (d.keys.filter (· < i)).length
 now : ∀ j, j < s.n → (Dev.backs keep (fun i => (Dev.look d.sure i).getD []) 0 (d.keys.filter (· < i)) d.secs)[j]? = some (g.now j)
 low : ∀ j, j < i → g.sure j = g.now j ∧ g.wrote j = false
 high : ∀ j, i ≤ j → g.now j = s.now j ∧ g.sure j = s.sure j ∧ g.wrote j = s.wrote j
 rest : g.n = s.n ∧ g.keep = s.keep ∧ g.works = s.works
theorem goneIs {s : RS} {d : Dev} (h : s.Is d) (hw : d.Wf) (keep : List Int) : ∀ i, i ≤ s.n → GoneIs s d keep i (s.goneTo keep i).1 (s.goneTo keep i).2 := by
 intro i
 induction i with
 | zero =>
  intro _
  have e : d.keys.filter (· < 0) = [] := by simp
  exact ⟨by rw [e]; rfl, fun j hj => by rw [e]; exact h.now j hj, fun j hj => by omega, fun j _ => ⟨rfl, rfl, rfl⟩, rfl, rfl, rfl⟩
 | succ i ih =>
  intro hi
  have hp := ih (by omega)
  have hgo : s.goneTo keep (i + 1) = ((s.goneTo keep i).1.lose keep i (s.goneTo keep i).2, if (s.goneTo keep i).1.wrote i then (s.goneTo keep i).2 + 1 else (s.goneTo keep i).2) := rfl
  obtain ⟨g, k, hg⟩ : ∃ g k, s.goneTo keep i = (g, k) := ⟨_, _, rfl⟩
  rw [hg] at hp hgo
  rw [hgo]
  simp only at hp ⊢
  have hh := hp.high i (Nat.le_refl _)
  have hwi := h.wrote i (by omega)
  have hfil := filter_lt_succ d.keys (keys_pairwise hw) i
  by_cases hm : i ∈ d.keys
  ·obtain ⟨b, hb⟩ := Dev.look_of_key (Dev.mem_keys.1 hm)
   have hwr : g.wrote i = true := by rw [hh.2.2, hwi, hb]; rfl
   have hsb : g.sure i = b := by rw [hh.2.1, h.sure i (by omega), hb]; rfl
   rw [if_pos hm] at hfil
   rw [if_pos hwr]
   refine ⟨by rw [hfil, List.length_append, ← hp.count]; rfl, fun j hj => ?_, fun j hj => ?_, fun j hj => ?_, ?_⟩
   ·rw [hfil, backs_snoc, Nat.zero_add, ← hp.count]
    unfold RS.lose RS.back
    rw [hwr, Bool.true_and]
    by_cases hl : Dev.lost keep k = true
    ·rw [if_pos hl, if_pos hl]
     simp only
     by_cases hji : j = i
     ·subst hji
      have hlen : j < (Dev.backs keep (fun i => (Dev.look d.sure i).getD []) 0 (d.keys.filter (· < j)) d.secs).length := by
       rw [Dev.length_backs, ← h.n]; omega
      rw [List.getElem?_set_self hlen, upd_self, hsb, hb]
      rfl
     ·rw [List.getElem?_set_ne (fun e => hji e.symm), upd_ne _ _ hji]
      exact hp.now j hj
    ·rw [if_neg hl, if_neg hl]
     exact hp.now j hj
   ·unfold RS.lose
    by_cases hji : j = i
    ·subst hji
     exact ⟨upd_self _ _ _, upd_self _ _ _⟩
    ·have hlow := hp.low j (by omega)
     simp only
     rw [upd_ne _ _ hji, upd_ne _ _ hji]
     unfold RS.back
     split
     ·simp only; rw [upd_ne _ _ hji]; exact hlow
     ·exact hlow
   ·have hji : j ≠ i := by omega
    have hhigh := hp.high j (by omega)
    unfold RS.lose
    simp only
    rw [upd_ne _ _ hji, upd_ne _ _ hji]
    unfold RS.back
    split
    ·simp only; rw [upd_ne _ _ hji]; exact hhigh
    ·exact hhigh
   ·unfold RS.lose RS.back
    split <;> exact hp.rest
  ·have hbn : Dev.look d.sure i = none := Dev.look_none.2 (fun e => hm (Dev.mem_keys.2 e))
   have hwr : g.wrote i = false := by rw [hh.2.2, hwi, hbn]; rfl
   have hsb : g.sure i = g.now i := by rw [hh.2.1, hh.1, h.sure i (by omega), hbn]; rfl
   rw [if_neg hm, List.append_nil] at hfil
   have hbk : g.back keep i k = g := by unfold RS.back; rw [hwr]; rfl
   rw [if_neg (by rw [hwr]; decide)]
   refine ⟨by rw [hfil]; exact hp.count, fun j hj => by rw [hfil]; unfold RS.lose; rw [hbk]; exact hp.now j hj, fun j hj => ?_, fun j hj => ?_, by unfold RS.lose; rw [hbk]; exact hp.rest⟩
   ·unfold RS.lose
    rw [hbk]
    by_cases hji : j = i
    ·subst hji
     exact ⟨upd_self _ _ _, upd_self _ _ _⟩
    ·have hlow := hp.low j (by omega)
     simp only
     rw [upd_ne _ _ hji, upd_ne _ _ hji]
     exact hlow
   ·have hji : j ≠ i := by omega
    have hhigh := hp.high j (by omega)
    unfold RS.lose
    rw [hbk]
    simp only
    rw [upd_ne _ _ hji, upd_ne _ _ hji]
    exact hhigh
theorem RS.Is.gone {s : RS} {d : Dev} (h : s.Is d) (hw : d.Wf) (keep : List Int) : (s.gone keep).Is (d.gone keep) := by
 have hp := goneIs h hw keep s.n (Nat.le_refl _)
 have hall : d.keys.filter (· < s.n) = d.keys := by
  rw [List.filter_eq_self]
  intro a ha
  obtain ⟨b, hb⟩ := Dev.look_of_key (Dev.mem_keys.1 ha)
  have := hw.keyIn _ (Dev.look_mem hb)
  simp only at this
  rw [h.n]
  simpa using this
 have hnow := hp.now
 rw [hall] at hnow
 exact {
  n := by show (s.goneTo keep s.n).1.n = _; rw [hp.rest.1, h.n]; simp [Dev.gone, Dev.length_backs]
  now := fun i hi => hnow i (by rw [← hp.rest.1]; exact hi)
  sure := fun i hi => (hp.low i (by rw [← hp.rest.1]; exact hi)).1
  wrote := fun i hi => (hp.low i (by rw [← hp.rest.1]; exact hi)).2
  fail := rfl
  keep := hp.rest.2.1.trans h.keep
  till := rfl
  works := hp.rest.2.2.trans h.works
  dead := rfl
  refuses := rfl }
end Go.Proofs.YtbnflbkaogpnbaaGreat
namespace Go.Proofs.YtbnflbkaogpnbaaGreat
def RS.write (s : RS) (i : Int) (b : Blk) : RS × Int := if s.stops i b.length ≠ 0 then (s, s.stops i b.length) else (s.midst i.toNat b).work
def RS.flushes (s : RS) : RS × Int := if s.stopsF ≠ 0 then (s, s.stopsF) else s.flush
def RS.crash (s : RS) (keep : List Int) : RS × Int := (if s.dead then s else s.gone keep, if s.dead then 100 else 0)
def RS.failAt (s : RS) (n : Int) (keep : List Int) : RS × Int := if s.dead then (s, 100) else ({ s with fail := max n (-1), keep := keep }, 0)
def RS.refuse (s : RS) (n : Int) : RS × Int := if s.dead then (s, 100) else ({ s with till := max n (-1), refuses := n == 0 }, 0)
def RS.boot (s : RS) : RS × Int := ({ s with dead := false }, 0)
theorem RS.Is.midst {s : RS} {d : Dev} (h : s.Is d) {i : Nat} (hi : i < s.n) (b : Blk) : (s.midst i b).Is (d.midst i b) := by
 have hn : i < d.secs.length := by rw [← h.n]; exact hi
 have hold := h.now i hi
 have hlk : ∀ j, Dev.look (d.midst i b).sure j = if j = i ∧ (Dev.look d.sure i).isSome = false then some (s.now i) else Dev.look d.sure j := by
  intro j
  simp only [Dev.midst]
  by_cases hs : (Dev.look d.sure i).isSome = true
  ·rw [if_pos hs, if_neg (by rw [hs]; simp)]
  ·have hnone : Dev.look d.sure i = none := by
    cases hl : Dev.look d.sure i with
    | none => rfl
    | some v => rw [hl] at hs; simp at hs
   rw [if_neg hs, look_append _ _ _ _ hnone, hold]
   by_cases hji : j = i
   ·rw [if_pos hji, if_pos ⟨hji, by rw [hnone]; rfl⟩]; rfl
   ·rw [if_neg hji, if_neg (fun e => hji e.1)]
 refine ⟨by show s.n = _; simp [Dev.midst, h.n], fun j hj => ?_, fun j hj => ?_, fun j hj => ?_, h.fail, h.keep, h.till, h.works, h.dead, h.refuses⟩
 ·show (d.secs.set i b)[j]? = some (upd s.now i b j)
  by_cases hji : j = i
  ·subst hji
   rw [List.getElem?_set_self hn, upd_self]
  ·rw [List.getElem?_set_ne (fun e => hji e.symm), upd_ne _ _ hji]
   exact h.now j hj
 ·show s.sure j = (Dev.look (d.midst i b).sure j).getD (upd s.now i b j)
  rw [hlk, h.sure j hj]
  by_cases hji : j = i
  ·subst hji
   cases hl : Dev.look d.sure j with
   | none => simp
   | some v => simp
  ·rw [if_neg (fun e => hji e.1), upd_ne _ _ hji]
 ·show upd s.wrote i true j = (Dev.look (d.midst i b).sure j).isSome
  rw [hlk]
  by_cases hji : j = i
  ·subst hji
   rw [upd_self]
   cases hl : Dev.look d.sure j with
   | none => simp
   | some v => simp
  ·rw [if_neg (fun e => hji e.1), upd_ne _ _ hji]
   exact h.wrote j hj
theorem RS.Is.fails {s : RS} {d : Dev} (h : s.Is d) : s.fails.Is { d with fail := max (d.fail - 1) (-1) } :=
 ⟨h.n, h.now, h.sure, h.wrote, by show max (s.fail - 1) (-1) = _; rw [h.fail], h.keep, h.till, h.works, h.dead, h.refuses⟩
theorem RS.Is.done {s : RS} {d : Dev} (h : s.Is { d with fail := max (d.fail - 1) (-1) }) : s.done.Is d.counted :=
 ⟨h.n, h.now, h.sure, h.wrote, h.fail, h.keep, by show max (s.till - 1) (-1) = max (d.till - 1) (-1); rw [h.till], by show s.works + 1 = d.works + 1; rw [h.works], h.dead, rfl⟩
theorem RS.Is.work {s : RS} {d : Dev} (h : s.Is d) (hw : d.Wf) : s.work.1.Is (if d.fail = 0 then d.gone d.keep else d.counted) ∧ s.work.2 = if d.fail = 0 then 100 else 0 := by
 unfold RS.work
 rw [h.fail]
 by_cases hf : d.fail = 0
 ·rw [if_pos hf, if_pos hf, if_pos hf, ← h.keep]
  have hw' : ({ d with fail := max (d.fail - 1) (-1) } : Dev).Wf := { hw with fail0 := by show -1 ≤ max (d.fail - 1) (-1); omega, fail1 := by show max (d.fail - 1) (-1) ≤ _; omega }
  exact ⟨h.fails.gone hw' s.keep, rfl⟩
 ·rw [if_neg hf, if_neg hf, if_neg hf]
  exact ⟨h.fails.done, rfl⟩
theorem RS.Is.stops {s : RS} {d : Dev} (h : s.Is d) (i : Int) (n : Nat) : s.stops i n = if d.at_ i ≠ 0 then d.at_ i else if n ≠ 128 then 2 else if d.till = 0 then 101 else 0 := by
 unfold RS.stops Dev.at_
 rw [h.dead, h.n, h.refuses, h.till]
 by_cases hd : d.dead = true
 ·simp [hd]
 ·have hd' : d.dead = false := by simpa using hd
  rw [hd']
  by_cases hi : i < 0 ∨ (d.secs.length : Int) ≤ i
  ·simp [hi]
  ·simp [hi]
theorem RS.Is.write {s : RS} {d : Dev} (h : s.Is d) (hw : d.Wf) (i : Int) (b : Blk) : (s.write i b).1.Is (d.write i b).1 ∧ (s.write i b).2 = (d.write i b).2 := by
 unfold RS.write Dev.write
 rw [h.stops]
 by_cases ha : d.at_ i ≠ 0
 ·rw [if_pos ha, if_pos ha, if_pos ha]; exact ⟨h, rfl⟩
 ·rw [if_neg ha, if_neg ha]
  by_cases hb : b.length ≠ 128
  ·rw [if_pos hb, if_pos hb, if_pos (by decide)]; exact ⟨h, rfl⟩
  ·rw [if_neg hb, if_neg hb]
   by_cases ht : d.till = 0
   ·rw [if_pos ht, if_pos ht, if_pos (by decide)]; exact ⟨h, rfl⟩
   ·rw [if_neg ht, if_neg ht, if_neg (by simp)]
    have hin : 0 ≤ i ∧ i.toNat < s.n := by
     unfold Dev.at_ at ha
     rw [h.n]
     by_cases hd : d.dead = true
     ·rw [if_pos hd] at ha; simp at ha
     ·rw [if_neg hd] at ha
      by_cases hi : i < 0 ∨ (d.secs.length : Int) ≤ i
      ·rw [if_pos hi] at ha; simp at ha
      ·omega
    have hm := h.midst hin.2 b
    obtain ⟨h1, h2⟩ := hm.work (hw.midst (by rw [← h.n]; exact hin.2) (by omega))
    have ef : (d.midst i.toNat b).fail = d.fail := rfl
    have ek : (d.midst i.toNat b).keep = d.keep := rfl
    rw [ef, ek] at h1
    rw [ef] at h2
    by_cases hf : d.fail = 0
    ·rw [if_pos hf] at h1 h2 ⊢; exact ⟨h1, h2⟩
    ·rw [if_neg hf] at h1 h2 ⊢; exact ⟨h1, h2⟩
theorem RS.flushTo_is (s : RS) : ∀ i, (∀ j, (s.flushTo i).now j = s.now j) ∧ (∀ j, j < i → (s.flushTo i).sure j = s.now j ∧ (s.flushTo i).wrote j = false) ∧ (s.flushTo i).n = s.n ∧ (s.flushTo i).fail = s.fail ∧ (s.flushTo i).keep = s.keep ∧ (s.flushTo i).dead = s.dead
 | 0 => ⟨fun _ => rfl, fun j hj => by omega, rfl, rfl, rfl, rfl⟩
 | i + 1 => by
  obtain ⟨h1, h2, h3⟩ := RS.flushTo_is s i
  refine ⟨h1, fun j hj => ?_, h3⟩
  show upd (s.flushTo i).sure i ((s.flushTo i).now i) j = _ ∧ upd (s.flushTo i).wrote i false j = _
  by_cases hji : j = i
  ·subst hji
   rw [upd_self, upd_self]
   exact ⟨h1 j, rfl⟩
  ·rw [upd_ne _ _ hji, upd_ne _ _ hji]
   exact h2 j (by omega)
theorem RS.Is.flushes {s : RS} {d : Dev} (h : s.Is d) (hw : d.Wf) : s.flushes.1.Is d.flush.1 ∧ s.flushes.2 = d.flush.2 := by
 by_cases hd : d.dead = true
 ·have e1 : s.flushes = (s, 100) := by simp [RS.flushes, RS.stopsF, h.dead, hd]
  have e2 : d.flush = (d, 100) := by simp [Dev.flush, hd]
  rw [e1, e2]; exact ⟨h, rfl⟩
 ·have hd' : d.dead = false := by simpa using hd
  by_cases ht : d.till = 0
  ·have e1 : s.flushes = (s, 101) := by simp [RS.flushes, RS.stopsF, h.dead, hd', h.refuses, h.till, ht]
   have e2 : d.flush = (d, 101) := by simp [Dev.flush, hd', ht]
   rw [e1, e2]; exact ⟨h, rfl⟩
  ·have e1 : s.flushes = s.flush := by simp [RS.flushes, RS.stopsF, h.dead, hd', h.refuses, h.till, ht]
   rw [e1]
   by_cases hf : d.fail = 0
   ·have e3 : s.flush = (s.fails.gone s.keep, 100) := if_pos (h.fail.trans hf)
    have e2 : d.flush = (d.gone d.keep, 100) := by simp [Dev.flush, hd', ht, hf]
    rw [e2, e3, ← h.keep]
    have hw' : ({ d with fail := max (d.fail - 1) (-1) } : Dev).Wf := { hw with fail0 := by show -1 ≤ max (d.fail - 1) (-1); omega, fail1 := by show max (d.fail - 1) (-1) ≤ _; omega }
    exact ⟨h.fails.gone hw' s.keep, rfl⟩
   ·have e3 : s.flush = ((s.fails.flushTo s.n).done, 0) := if_neg (by rw [h.fail]; exact hf)
    have e2 : d.flush = (({ d with sure := [] } : Dev).counted, 0) := by simp [Dev.flush, hd', ht, hf]
    rw [e2, e3]
    refine ⟨?_, rfl⟩
    have hs := RS.flushTo_is s.fails s.n
    have hh := RS.flushTo_same s.fails s.n
    have hn : (s.fails.flushTo s.n).n = s.n := hs.2.2.1
    have hx : (s.fails.flushTo s.n).Is { ({ d with sure := [] } : Dev) with fail := max (d.fail - 1) (-1) } :=
     ⟨hn.trans h.n, fun i hi => by rw [hs.1 i]; exact h.now i (by omega), fun i hi => by rw [hs.1 i]; exact (hs.2.1 i (by omega)).1, fun i hi => (hs.2.1 i (by omega)).2,
      by rw [hs.2.2.2.1]; exact h.fails.fail, hs.2.2.2.2.1.trans h.keep, hh.2.1.trans h.till, hh.2.2.1.trans h.works, hs.2.2.2.2.2.trans h.dead, by rw [hh.2.2.2, hh.2.1]; exact h.refuses⟩
    exact hx.done
theorem RS.Is.crash {s : RS} {d : Dev} (h : s.Is d) (hw : d.Wf) (keep : List Int) : (s.crash keep).1.Is (d.crash keep).1 ∧ (s.crash keep).2 = (d.crash keep).2 := by
 by_cases hd : d.dead = true
 ·have e1 : s.crash keep = (s, 100) := by simp [RS.crash, h.dead, hd]
  have e2 : d.crash keep = (d, 100) := by simp [Dev.crash, hd]
  rw [e1, e2]; exact ⟨h, rfl⟩
 ·have hd' : d.dead = false := by simpa using hd
  have e1 : s.crash keep = (s.gone keep, 0) := by simp [RS.crash, h.dead, hd']
  have e2 : d.crash keep = (d.gone keep, 0) := by simp [Dev.crash, hd']
  rw [e1, e2]; exact ⟨h.gone hw keep, rfl⟩
theorem RS.Is.failAt {s : RS} {d : Dev} (h : s.Is d) (n : Int) (keep : List Int) : (s.failAt n keep).1.Is (d.failAt n keep).1 ∧ (s.failAt n keep).2 = (d.failAt n keep).2 := by
 by_cases hd : d.dead = true
 ·have e1 : s.failAt n keep = (s, 100) := by simp [RS.failAt, h.dead, hd]
  have e2 : d.failAt n keep = (d, 100) := by simp [Dev.failAt, hd]
  rw [e1, e2]; exact ⟨h, rfl⟩
 ·have e1 : s.failAt n keep = ({ s with fail := max n (-1), keep := keep }, 0) := if_neg (by rw [h.dead]; exact hd)
  have e2 : d.failAt n keep = ({ d with fail := max n (-1), keep := keep }, 0) := if_neg hd
  rw [e1, e2]
  exact ⟨⟨h.n, h.now, h.sure, h.wrote, rfl, rfl, h.till, h.works, h.dead, h.refuses⟩, rfl⟩
theorem RS.Is.refuse {s : RS} {d : Dev} (h : s.Is d) (n : Int) : (s.refuse n).1.Is (d.refuse n).1 ∧ (s.refuse n).2 = (d.refuse n).2 := by
 by_cases hd : d.dead = true
 ·have e1 : s.refuse n = (s, 100) := by simp [RS.refuse, h.dead, hd]
  have e2 : d.refuse n = (d, 100) := by simp [Dev.refuse, hd]
  rw [e1, e2]; exact ⟨h, rfl⟩
 ·have e1 : s.refuse n = ({ s with till := max n (-1), refuses := n == 0 }, 0) := if_neg (by rw [h.dead]; exact hd)
  have e2 : d.refuse n = ({ d with till := max n (-1) }, 0) := if_neg hd
  rw [e1, e2]
  refine ⟨⟨h.n, h.now, h.sure, h.wrote, h.fail, h.keep, rfl, h.works, h.dead, ?_⟩, rfl⟩
  show (n == 0) = (max n (-1) == 0)
  by_cases hn : n = 0
  ·subst hn; rfl
  ·rw [beq_false_of_ne hn, beq_false_of_ne (by omega)]
theorem RS.Is.boot {s : RS} {d : Dev} (h : s.Is d) : s.boot.1.Is d.boot := ⟨h.n, h.now, h.sure, h.wrote, h.fail, h.keep, h.till, h.works, rfl, h.refuses⟩
theorem RS.Is.fine {s : RS} {d : Dev} (h : s.Is d) (hw : d.Wf) (hk : d.works < 9223372036854775807) : s.Fine :=
 ⟨by rw [h.fail]; exact hw.fail0, by rw [h.fail]; exact hw.fail1, by rw [h.till]; exact hw.till0, by rw [h.till]; exact hw.till1, by rw [h.works]; exact hw.works0, by rw [h.works]; exact hk, h.refuses⟩
end Go.Proofs.YtbnflbkaogpnbaaGreat
namespace Go.Proofs.YtbnflbkaogpnbaaGreat
open Go.RowKit
/-- The document's device at block r is d. -/
def Rv (w : World) (r : Nat) (fp : List Nat) (d : Dev) : Prop := ∃ B cap l s, RefAt w r B cap l fp s ∧ s.Is d
def RvPost (w : World) (r : Nat) (fp : List Nat) (x : Dev × Int) (e : Ending) (w' : World) : Prop :=
 e = .returned (.int .i64 x.2) ∧ ∃ fp', Rv w' r fp' x.1 ∧ Kept fp w w' ∧ ∀ j ∈ fp', j ∈ fp ∨ w.heap.size ≤ j
theorem Rv.kept {w w' : World} {r : Nat} {fp : List Nat} {d : Dev} {F : List Nat} (h : Rv w r fp d) (hk : Kept F w w') (hF : ∀ j ∈ fp, j ∉ F) : Rv w' r fp d := by
 obtain ⟨B, cap, l, s, hR, hI⟩ := h
 exact ⟨B, cap, l, s, hR.kept hk hF, hI⟩
theorem Rv.new_kept {w w' : World} {r : Nat} {fp : List Nat} {d : Dev} (h : Rv w r fp d) (hk : Kept [] w w') : Rv w' r fp d := h.kept hk (by simp)
theorem Rv.lt {w : World} {r : Nat} {fp : List Nat} {d : Dev} (h : Rv w r fp d) : ∀ j ∈ fp, j < w.heap.size := by
 obtain ⟨B, cap, l, s, hR, hI⟩ := h
 exact hR.lt
theorem Rv.rin {w : World} {r : Nat} {fp : List Nat} {d : Dev} (h : Rv w r fp d) : r ∈ fp := by
 obtain ⟨B, cap, l, s, hR, hI⟩ := h
 exact hR.rin
theorem RvPost.of {w : World} {r : Nat} {fp : List Nat} {s : RS} {x : Dev × Int} {n : Int} {e : Ending} {w' : World} (h : RfPost w r fp s (.int .i64 n) e w') (hs : s.Is x.1 ∧ n = x.2) : RvPost w r fp x e w' := by
 obtain ⟨he, B, cap, l, fp', hR, hk, hn⟩ := h
 exact ⟨by rw [he, hs.2], fp', ⟨B, cap, l, s, hR, hs.1⟩, hk, hn⟩
theorem RfPost.of_head {w : World} {r B cap : Nat} {l : List One} {fp : List Nat} {s s' : RS} {v : Value} {e : Ending} {w' : World} (h : RefAt w r B cap l fp s) (hp : HdPost w r B cap l fp s' (.returned v) e w') : RfPost w r fp s' v e w' := by
 obtain ⟨rfl, hR, hk⟩ := hp
 exact ((Rn.start h).head hR hk).post v
section
variable {w : World} {r : Nat} {fp : List Nat} {d : Dev}
theorem rv_write (h : Rv w r fp d) (hw : d.Wf) (hk : d.works < 9223372036854775807) (i : Int) (b : Blk) (A : Option Addr) (n c : Nat) (hs : SlAt w A n c (u8vs b)) :
  Calls Tryz.prog 101 #[.pointer (some ⟨r, 0, none⟩), .int .i64 i, .slice A n c] w (RvPost w r fp (d.write i b)) := by
 obtain ⟨B, cap, l, s, hR, hI⟩ := h
 have hlen : b.length = n := by have := hs.len; simpa [u8vs] using this
 have hl := hI.write hw i b
 unfold RS.write at hl
 rw [hlen] at hl
 by_cases hz : s.stops i n ≠ 0
 ·rw [if_pos hz] at hl
  refine (refWrite_no hR i A n c hz).mono ?_
  rintro e w' ⟨rfl, rfl⟩
  exact RvPost.of ((Rn.start hR).post _) hl
 ·rw [if_neg hz] at hl
  have hz0 : s.stops i n = 0 := by omega
  have hn : n = 128 := by
   rw [hI.stops] at hz0
   by_cases ha : d.at_ i ≠ 0
   ·rw [if_pos ha] at hz0; exact absurd hz0 ha
   ·rw [if_neg ha] at hz0
    by_cases hn : n ≠ 128
    ·rw [if_pos hn] at hz0; exact absurd hz0 (by decide)
    ·omega
  subst hn
  refine (refWrite_ok hR i A c b hs hz0 (hI.fine hw hk)).mono fun e w' hp => ?_
  exact RvPost.of hp hl
theorem rv_flush (h : Rv w r fp d) (hw : d.Wf) (hk : d.works < 9223372036854775807) : Calls Tryz.prog 95 #[.pointer (some ⟨r, 0, none⟩)] w (RvPost w r fp d.flush) := by
 obtain ⟨B, cap, l, s, hR, hI⟩ := h
 have hl := hI.flushes hw
 unfold RS.flushes at hl
 by_cases hz : s.stopsF ≠ 0
 ·rw [if_pos hz] at hl
  refine (refFlush_no hR hz).mono ?_
  rintro e w' ⟨rfl, rfl⟩
  exact RvPost.of ((Rn.start hR).post _) hl
 ·rw [if_neg hz] at hl
  refine (refFlush_ok hR (by omega) (hI.fine hw hk)).mono fun e w' hp => ?_
  exact RvPost.of hp hl
theorem rv_crash (h : Rv w r fp d) (hw : d.Wf) (A : Option Addr) (n c : Nat) (keep : List Int) (hx : SlAt w A n c (keep.map i64v)) (hA : ∀ p, A = some p → 0 < n → p.block ∉ fp) (hki : ∀ n ∈ keep, I64 n) :
  Calls Tryz.prog 63 #[.pointer (some ⟨r, 0, none⟩), .slice A n c] w (RvPost w r fp (d.crash keep)) := by
 obtain ⟨B, cap, l, s, hR, hI⟩ := h
 refine (refCrash_any hR A n c keep hx (fun p hp h0 hm => absurd hm (hA p hp h0)) hki).mono fun e w' hp => ?_
 exact RvPost.of hp (hI.crash hw keep)
set_option maxHeartbeats 400000 in
theorem refFail_dead {B cap : Nat} {l : List One} {s : RS} (h : RefAt w r B cap l fp s) (n : Int) (A : Option Addr) (m c : Nat) (hd : s.dead = true) :
  Calls Tryz.prog 67 #[.pointer (some ⟨r, 0, none⟩), .int .i64 n, .slice A m c] w (fun e w' => e = .returned (.int .i64 100) ∧ w = w') := by
 obtain ⟨c0, c1, c3, c4, c5, c6, cf⟩ := h.cells
 rw [hd] at c5
 clear c0 c1 c3 c4 c6
 have HD := Lib.hid hd; clear hd
 go_enter Tryz.func67, Tryz.ntmps67
 go_wp2
 go_ret
 exact ⟨rfl, rfl⟩
set_option maxHeartbeats 400000 in
theorem refRefuse_dead {B cap : Nat} {l : List One} {s : RS} (h : RefAt w r B cap l fp s) (n : Int) (hd : s.dead = true) :
  Calls Tryz.prog 69 #[.pointer (some ⟨r, 0, none⟩), .int .i64 n] w (fun e w' => e = .returned (.int .i64 100) ∧ w = w') := by
 obtain ⟨c0, c1, c3, c4, c5, c6, cf⟩ := h.cells
 rw [hd] at c5
 clear c0 c1 c3 c4 c6
 have HD := Lib.hid hd; clear hd
 go_enter Tryz.func69, Tryz.ntmps69
 go_wp2
 go_ret
 exact ⟨rfl, rfl⟩
theorem rv_fail (h : Rv w r fp d) (n : Int) (A : Option Addr) (m c : Nat) (keep : List Int) (hx : SlAt w A m c (keep.map i64v)) (hm : m * 8 ≤ 140737488355328) (hA : ∀ p, A = some p → 0 < m → p.block ∉ fp) (hki : ∀ n ∈ keep, I64 n) :
  Calls Tryz.prog 67 #[.pointer (some ⟨r, 0, none⟩), .int .i64 n, .slice A m c] w (RvPost w r fp (d.failAt n keep)) := by
 obtain ⟨B, cap, l, s, hR, hI⟩ := h
 have hl := hI.failAt n keep
 unfold RS.failAt at hl
 by_cases hd : s.dead = true
 ·rw [if_pos hd] at hl
  refine (refFail_dead hR n A m c hd).mono ?_
  rintro e w' ⟨rfl, rfl⟩
  exact RvPost.of ((Rn.start hR).post _) hl
 ·rw [if_neg hd] at hl
  refine (refFail_any hR n A m c keep hx hm (fun p hp h0 e => hA p hp h0 (e ▸ hR.rin)) hki (by simpa using hd)).mono fun e w' hp => ?_
  exact RvPost.of hp hl
theorem rv_refuse (h : Rv w r fp d) (n : Int) : Calls Tryz.prog 69 #[.pointer (some ⟨r, 0, none⟩), .int .i64 n] w (RvPost w r fp (d.refuse n)) := by
 obtain ⟨B, cap, l, s, hR, hI⟩ := h
 have hl := hI.refuse n
 unfold RS.refuse at hl
 by_cases hd : s.dead = true
 ·rw [if_pos hd] at hl
  refine (refRefuse_dead hR n hd).mono ?_
  rintro e w' ⟨rfl, rfl⟩
  exact RvPost.of ((Rn.start hR).post _) hl
 ·rw [if_neg hd] at hl
  refine (refRefuse_any hR n (by simpa using hd)).mono fun e w' hp => ?_
  exact RvPost.of (RfPost.of_head hR hp) hl
theorem rv_boot (h : Rv w r fp d) : Calls Tryz.prog 65 #[.pointer (some ⟨r, 0, none⟩)] w (RvPost w r fp (d.boot, 0)) := by
 obtain ⟨B, cap, l, s, hR, hI⟩ := h
 refine (refBoot_any hR).mono fun e w' hp => ?_
 exact RvPost.of (RfPost.of_head hR hp) ⟨hI.boot, rfl⟩
end
end Go.Proofs.YtbnflbkaogpnbaaGreat
namespace Go.Proofs.YtbnflbkaogpnbaaGreat
open Go.RowKit
/-- Read, of the document's: what stands in the way, or what is there. -/
theorem rv_read {w : World} {r : Nat} {fp : List Nat} {d : Dev} (h : Rv w r fp d) (i : Int) {b : Blk} (hz : d.at_ i = 0) (hb : d.secs[i.toNat]? = some b) : Calls Tryz.prog 73 #[.pointer (some ⟨r, 0, none⟩), .int .i64 i] w (ReadsPost w b) := by
 obtain ⟨B, cap, l, s, hR, hI⟩ := h
 unfold Dev.at_ at hz
 have hd : d.dead = false := by
  by_cases hd : d.dead = true
  ·rw [if_pos hd] at hz; exact absurd hz (by decide)
  ·simpa using hd
 rw [hd] at hz
 simp only [Bool.false_eq_true, if_false] at hz
 have hi : ¬ (i < 0 ∨ (d.secs.length : Int) ≤ i) := fun hi => by rw [if_pos hi] at hz; exact absurd hz (by decide)
 obtain ⟨q, rfl⟩ : ∃ q : Nat, i = q := ⟨i.toNat, by omega⟩
 have hq : q < s.n := by rw [hI.n]; omega
 have hn := hI.now q hq
 rw [Int.toNat_natCast, hn] at hb
 cases hb
 exact refRead_ok hR q (hI.dead.trans hd) hq
theorem rv_read_bad {w : World} {r : Nat} {fp : List Nat} {d : Dev} (h : Rv w r fp d) (i : Int) (hz : d.at_ i ≠ 0) : Calls Tryz.prog 73 #[.pointer (some ⟨r, 0, none⟩), .int .i64 i] w (fun e w' => e = .returned (.tuple #[.slice none 0 0, .int .i64 (d.at_ i)]) ∧ w = w') := by
 obtain ⟨B, cap, l, s, hR, hI⟩ := h
 by_cases hd : d.dead = true
 ·have e : d.at_ i = 100 := by simp [Dev.at_, hd]
  rw [e]
  exact refRead_dead hR i (hI.dead.trans hd)
 ·have hd' : d.dead = false := by simpa using hd
  have hi : i < 0 ∨ (d.secs.length : Int) ≤ i := by
   unfold Dev.at_ at hz
   rw [hd'] at hz
   by_cases hi : i < 0 ∨ (d.secs.length : Int) ≤ i
   ·exact hi
   ·simp [hi] at hz
  have e : d.at_ i = 9 := by simp [Dev.at_, hd', hi]
  rw [e]
  exact refRead_out hR i (hI.dead.trans hd') (by rw [hI.n]; exact hi)
end Go.Proofs.YtbnflbkaogpnbaaGreat
