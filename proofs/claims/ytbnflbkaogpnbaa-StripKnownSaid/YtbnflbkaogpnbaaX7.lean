/- The document's device: New. -/
import Derived.Test.YtbnflbkaogpnbaaX6
import Derived.Deep.AppendLies
import Derived.Deep.RegionLaw
namespace Go.Proofs.Ytbnflbkaogpnbaa
open Go.RowKit

theorem info_refone : (Try.prog.info? 112).map (fun i => (i.zero, i.size, i.bytes)) = some (some (.agg #[.slice none 0 0, .slice none 0 0, .bool false]), 3, 56) := by kernel_rfl

/-- What a new one has. -/
def RS.new (n : Nat) : RS := { n := n, now := fun _ => zeros, sure := fun _ => zeros, wrote := fun _ => false, fail := -1, keep := [], till := -1, works := 0, dead := false, refuses := false }

/-- A new sector. -/
structure OneNew (w : World) (r : Nat) (g : Option Nat) (o : One) : Prop where
  now : SlAt w o.nA 128 o.nc (u8vs zeros)
  sure : SlAt w o.sA 128 o.sc (u8vs zeros)
  wr : o.wrote = false
  nb : ∀ p, o.nA = some p → r < p.block ∧ g ≠ some p.block
  sb : ∀ p, o.sA = some p → r < p.block ∧ g ≠ some p.block

structure NewAt (w : World) (r k : Nat) (l : List One) (v : Value) (wr : World) : Prop where
  len : l.length = k
  head : wr.heap[r]? = some (.cells #[v, .int .i64 (-1), .slice none 0 0, .int .i64 (-1), .int .i64 0, .bool false, .bool false] 56 (0, 0))
  own : wr.ownsRow (r + 1) 112 3 v k (ones l)
  all : ∀ o ∈ l, OneNew wr r v.ownBlock o
  kept : Kept [] w wr
  old : w.heap.size ≤ r

def Z128 : Obj := .cells (madeCells #[.int .u8 0] 128) 5

theorem made_zeros : (madeCells #[.int .u8 0] 128) = (u8vs zeros).toArray := by
  apply Array.ext'
  rw [toList_madeCells_one]
  simp [u8vs, zeros, u8v]

/-- A row of noughts that was just made. -/
theorem SlAt.zeros {w : World} {a : Nat} (h : w.heap[a]? = some Z128) : SlAt w (some ⟨a, 0, none⟩) 128 128 (u8vs zeros) := by
  refine ⟨by simp [u8vs, length_zeros], Nat.le_refl _, by unfold maxLen; omega, fun _ => ⟨a, 0, rfl, World.lt_of_heap h, fun i hi => ?_⟩⟩
  rw [blk_cell h, made_zeros, List.getElem?_toArray, Nat.zero_add]

theorem OneNew.kept {w w' : World} {r : Nat} {g g' : Option Nat} {o : One} {F : List Nat} (h : OneNew w r g o) (hk : Kept F w w') (hF : ∀ j ∈ F, some j = g ∨ j = r) (hg : g' = g ∨ ∃ j, g' = some j ∧ w.heap.size ≤ j) : OneNew w' r g' o := by
  have hh : ∀ p : Addr, r < p.block ∧ g ≠ some p.block → p.block ∉ F := fun p ⟨h1, h2⟩ hm => by
    rcases hF _ hm with e | e
    · exact h2 e.symm
    · omega
  have hb : ∀ p : Addr, p.block < w.heap.size → r < p.block ∧ g ≠ some p.block → r < p.block ∧ g' ≠ some p.block := fun p hl ⟨h1, h2⟩ => by
    rcases hg with e | ⟨j, e, hj⟩
    · rw [e]; exact ⟨h1, h2⟩
    · rw [e]; exact ⟨h1, fun e2 => by cases e2; omega⟩
  exact ⟨h.now.kept hk (fun p e => hh p (h.nb p e)), h.sure.kept hk (fun p e => hh p (h.sb p e)), h.wr, fun p e => hb p (h.now.lt (by omega) e) (h.nb p e), fun p e => hb p (h.sure.lt (by omega) e) (h.sb p e)⟩

theorem NewAt.step {w : World} {r k : Nat} {l : List One} {v : Value} {wr W w1 : World} (h : NewAt w r k l v wr) (a b gg cap : Nat) (hab : a = wr.heap.size ∧ b = wr.heap.size + 1 ∨ a = wr.heap.size + 1 ∧ b = wr.heap.size)
    (hW : W = (((wr.alloc Z128).alloc Z128).alloc (.cells #[.slice (some ⟨a, 0, none⟩) 128 128, .slice (some ⟨b, 0, none⟩) 128 128, .bool false] 112)).drew)
    (hown : w1.ownsRow (r + 1) 112 3 (.slice (some ⟨gg, 0, none⟩) (k + 1) cap) (k + 1) (ones l ++ [.slice (some ⟨a, 0, none⟩) 128 128, .slice (some ⟨b, 0, none⟩) 128 128, .bool false]))
    (hgrow : W.grownBy w1 v.ownBlock) (hat : v.ownBlock = some gg ∨ gg = wr.heap.size + 3) :
    NewAt w r (k + 1) (l ++ [⟨some ⟨a, 0, none⟩, 128, some ⟨b, 0, none⟩, 128, false⟩]) (.slice (some ⟨gg, 0, none⟩) (k + 1) cap) (w1.setCell ⟨r, 0, none⟩ (.slice (some ⟨gg, 0, none⟩) (k + 1) cap)) := by
  have hrs := World.lt_of_heap h.head
  have hkW : Kept [] wr W := by
    subst hW
    exact (((Kept.alloc [] _ _).trans (Kept.alloc [] _ _)).trans (Kept.alloc [] _ _)).trans (Kept.drew [] _)
  have hWs : W.heap.size = wr.heap.size + 3 := by subst hW; simp [World.drew]
  have hlt := h.own.lt
  have hrne : some r ≠ v.ownBlock := fun e => by have := hlt r e.symm; omega
  obtain ⟨F, hF⟩ : ∃ F : List Nat, ∀ j, j ∈ F ↔ v.ownBlock = some j := ⟨v.ownBlock.toList, fun j => by simp⟩
  have hk1 : Kept F W w1 := Kept.grown hgrow (fun j e => .inl ((hF j).2 e))
  have hk2 : Kept [r] w1 (w1.setCell ⟨r, 0, none⟩ (.slice (some ⟨gg, 0, none⟩) (k + 1) cap)) := Kept.setCell (by simp) _
  have hk3 : Kept (r :: F) W (w1.setCell ⟨r, 0, none⟩ (.slice (some ⟨gg, 0, none⟩) (k + 1) cap)) := (hk1.mono (fun i hi => .inl (List.mem_cons_of_mem _ hi))).trans (hk2.mono (fun i hi => .inl (by simp at hi; simp [hi])))
  have hk4 : Kept (r :: F) wr (w1.setCell ⟨r, 0, none⟩ (.slice (some ⟨gg, 0, none⟩) (k + 1) cap)) := (hkW.mono (by simp)).trans hk3
  have hFF : ∀ j ∈ r :: F, some j = v.ownBlock ∨ j = r := fun j hj => by
    rcases List.mem_cons.1 hj with e | e
    · exact .inr e
    · exact .inl ((hF j).1 e).symm
  have hold := h.old
  have hgr : r + 1 ≤ gg := (hown.lt gg rfl).1
  have hza : W.heap[a]? = some Z128 ∧ W.heap[b]? = some Z128 := by
    have e0 : (wr.alloc Z128).heap[wr.heap.size]? = some Z128 := heap_alloc_new wr Z128
    have e1 : ((wr.alloc Z128).alloc Z128).heap[wr.heap.size]? = some Z128 := by rw [Below.heap_alloc _ _ _ (by simp)]; exact e0
    have e2 : ((wr.alloc Z128).alloc Z128).heap[wr.heap.size + 1]? = some Z128 := by
      have := heap_alloc_new (wr.alloc Z128) Z128
      simpa using this
    subst hW
    have e3 : ∀ j o, j < wr.heap.size + 2 → (((wr.alloc Z128).alloc Z128).alloc o).drew.heap[j]? = ((wr.alloc Z128).alloc Z128).heap[j]? := fun j o hj => Below.heap_alloc _ _ _ (by simp; omega)
    rcases hab with ⟨rfl, rfl⟩ | ⟨rfl, rfl⟩
    · exact ⟨(e3 _ _ (by omega)).trans e1, (e3 _ _ (by omega)).trans e2⟩
    · exact ⟨(e3 _ _ (by omega)).trans e2, (e3 _ _ (by omega)).trans e1⟩
  have habn : wr.heap.size ≤ a ∧ wr.heap.size ≤ b ∧ a < wr.heap.size + 2 ∧ b < wr.heap.size + 2 := by omega
  have hgne : ∀ j, wr.heap.size ≤ j → j < wr.heap.size + 2 → gg ≠ j := fun j h1 h2 e => by
    subst e
    rcases hat with e | e
    · have := hlt gg e; omega
    · omega
  have hnF : ∀ j, wr.heap.size ≤ j → j ∉ r :: F := fun j h1 hm => by
    rcases hFF j hm with e | e
    · have := hlt j e.symm; omega
    · omega
  refine ⟨by simp [h.len], ?_, ?_, ?_, ?_, h.old⟩
  · have e1 : w1.heap[r]? = some (.cells #[v, .int .i64 (-1), .slice none 0 0, .int .i64 (-1), .int .i64 0, .bool false, .bool false] 56 (0, 0)) :=
      (hgrow.block r (by omega) hrne).trans ((hkW.block r hrs (by simp)).trans h.head)
    rw [heap_set e1]
    rfl
  · rw [ones_snoc]
    exact ownsRow_setCell_below hown (by show r < r + 1; omega) _
  · intro o ho
    rcases List.mem_append.1 ho with h1 | h1
    · refine (h.all o h1).kept hk4 hFF ?_
      rcases hat with e | e
      · exact .inl e.symm
      · exact .inr ⟨gg, rfl, by omega⟩
    · simp only [List.mem_singleton] at h1
      subst h1
      refine ⟨(SlAt.zeros hza.1).kept hk3 (fun p e => by cases e; exact hnF a habn.1), (SlAt.zeros hza.2).kept hk3 (fun p e => by cases e; exact hnF b habn.2.1), rfl, fun p e => ?_, fun p e => ?_⟩
      · cases e
        exact ⟨by show r < a; omega, fun e => hgne a habn.1 habn.2.2.1 (by simpa [Value.ownBlock] using e)⟩
      · cases e
        exact ⟨by show r < b; omega, fun e => hgne b habn.2.1 habn.2.2.2 (by simpa [Value.ownBlock] using e)⟩
  · refine h.kept.trans' hk4 (fun j hj => ?_)
    rcases hFF j hj with e | e
    · have := hlt j e.symm; exact .inr (by omega)
    · exact .inr (by omega)

/-- At the end. -/
theorem NewAt.done {w : World} {r k : Nat} {l : List One} {v : Value} {wr : World} (h : NewAt w r k l v wr) (h1 : 1 ≤ k) (h2 : k ≤ 8192) :
    ∃ B cap fp, RefAt wr r B cap l fp (RS.new k) ∧ ∀ j ∈ fp, w.heap.size ≤ j := by
  obtain ⟨hl, hh⟩ := h.own
  rcases hh with ⟨_, e⟩ | ⟨g, cap, cur, rfl, hb, hg, hnc, hcm, hs, ht⟩
  · omega
  · have hrs := World.lt_of_heap h.head
    have hold := h.old
    obtain ⟨fp, hfp⟩ : ∃ fp : List Nat, ∀ j, j ∈ fp ↔ r ≤ j ∧ j < wr.heap.size := ⟨(List.range wr.heap.size).filter (r ≤ ·), fun j => by simp [and_comm]⟩
    have hg2 := World.lt_of_heap hg
    have hlen := h.len
    refine ⟨g, cap, fp, ⟨⟨none, 0, 0, by rw [hlen]; exact h.head, SlAt.nil _, by simp, by simp [RS.new]⟩, ⟨⟨cur, hg, by omega, fun i o hi j hj => ?_⟩, by omega, hcm⟩, by rw [hlen]; rfl, fun i o hi => ?_, by omega, (hfp r).2 ⟨Nat.le_refl _, hrs⟩, (hfp g).2 ⟨by omega, hg2⟩, by omega, fun j hj => ((hfp j).1 hj).2⟩, fun j hj => by have := (hfp j).1 hj; omega⟩
    · have h3 := (List.getElem?_eq_some_iff.1 hi).1
      have h4 := ones_at hi hj
      rw [← ht, List.getElem?_take, if_pos (by omega), Array.getElem?_toList] at h4
      exact h4
    · have ho := h.all o (List.mem_of_getElem? hi)
      exact ⟨ho.now, ho.sure, ho.wr, fun p e => ⟨(hfp _).2 ⟨by have := (ho.nb p e).1; omega, ho.now.lt (by omega) e⟩, by have := (ho.nb p e).1; omega, fun e2 => (ho.nb p e).2 (by rw [e2]; rfl)⟩,
        fun p e => ⟨(hfp _).2 ⟨by have := (ho.sb p e).1; omega, ho.sure.lt (by omega) e⟩, by have := (ho.sb p e).1; omega, fun e2 => (ho.sb p e).2 (by rw [e2]; rfl)⟩⟩

def RefNewPost (w : World) (n : Nat) (e : Ending) (w' : World) : Prop :=
  ∃ r B cap l fp, e = .returned (.tuple #[.pointer (some ⟨r, 0, none⟩), .int .i64 0]) ∧ RefAt w' r B cap l fp (RS.new n) ∧ Kept [] w w' ∧ ∀ j ∈ fp, w.heap.size ≤ j

def NwRel (w : World) (r n : Nat) (i : Value) (wr : World) : Prop := ∃ k l v, k ≤ n ∧ i = .int .i64 (k : Nat) ∧ NewAt w r k l v wr

set_option maxHeartbeats 2000000 in
set_option maxRecDepth 100000 in
theorem refNew_any (n : Nat) (w : World) (h1 : 1 ≤ n) (h2 : n ≤ 8192) :
    Calls Try.prog 36 #[.int .i64 n] w (RefNewPost w n) := by
  obtain ⟨i0, hi0, hz0, hz1, hz2⟩ := info_parts info_refone
  obtain ⟨j0, hj0, ju0, ju1, ju2⟩ := info_parts info_u8
  have hmk := fun wx : World => run_make (P := Try.prog) wx 34 5 j0 _ Try.underlying34 hj0 ju0 .i64 .i64 128 128 (by omega) (Int.le_refl _) (by rw [ju2]; omega) (by omega)
  simp only [ju1] at hmk
  have b1 : ¬ (n : Int) < 1 := by omega
  have b2 : ¬ (8192 : Int) < (n : Int) := by omega
  go_enter Try.func36, Try.ntmps36
  go_wp2_with fail
  go_loopw [5] (fun i wr => NwRel w w.heap.size n i wr) (fun i _ => n - (intOf i).toNat)
  case atStart =>
    refine ⟨0, [], .slice none 0 0, Nat.zero_le _, rfl, rfl, heap_alloc_new _ _, World.ownsRow_nil _ _ _ _, by simp, Kept.alloc [] _ _, Nat.le_refl _⟩
  case round =>
    obtain ⟨k, l, v, hk, rfl, hN⟩ := hrel
    by_cases hlt : k < n
    · have i1 : (k : Int) < (n : Int) := by omega
      have hrs := World.lt_of_heap hN.head
      have c0 : wr.cell? ⟨w.heap.size, 0, none⟩ = some v := by rw [blk_cell hN.head]; rfl
      have hS : ∀ W, Kept [] wr W → W.cell? ⟨w.heap.size, 0, none⟩ = some v := fun W hkW => (hkW.cell (p := ⟨w.heap.size, 0, none⟩) hrs (by simp)).trans c0
      have c1 : ∀ o, (wr.alloc o).cell? ⟨w.heap.size, 0, none⟩ = some v := fun o => hS _ (Kept.alloc [] _ _)
      have c2 : ∀ o p, ((wr.alloc o).alloc p).cell? ⟨w.heap.size, 0, none⟩ = some v := fun o p => hS _ ((Kept.alloc [] _ _).trans (Kept.alloc [] _ _))
      have hbs : ∀ o p q, (((wr.alloc o).alloc p).alloc q).heap[wr.heap.size + 1 + 1]? = some q := fun o p q => by
        have := heap_alloc_new ((wr.alloc o).alloc p) q
        simpa using this
      have hb1 : w.heap.size + 1 ≤ wr.heap.size + 3 := by omega
      have hb2 : k + 1 ≤ maxLen := by unfold maxLen; omega
      have hb3 : (k + 1) * 56 ≤ 140737488355328 := by omega
      have hno : v.ownBlock ≠ some w.heap.size := fun e => by have := hN.own.lt _ e; omega
      have c3 : ∀ o p q, (((wr.alloc o).alloc p).alloc q).drew.cell? ⟨w.heap.size, 0, none⟩ = some v := fun o p q => hS _ ((((Kept.alloc [] _ _).trans (Kept.alloc [] _ _)).trans (Kept.alloc [] _ _)).trans (Kept.drew [] _))
      have f3 : ∀ o p q, (((wr.alloc o).alloc p).alloc q).drew.frozen? ⟨w.heap.size, 0, none⟩ = false := fun o p q => ((((((Kept.alloc [] _ _).trans (Kept.alloc [] _ _)).trans (Kept.alloc [] _ _)).trans (Kept.drew [] _)) : Kept [] wr _).frozen (p := ⟨w.heap.size, 0, none⟩) hrs (by simp)).trans (blk_frozen hN.head 0)
      clear hS
      go_wp2_with fail
      go_region_law (first
        | (refine step_append_lies _ rfl (.tmp 23) (.tmp 27) _ rfl (w.heap.size + 1) 112 i0 _ 3 56 Try.underlying54 hi0 hz0 hz1 hz2 rfl (by omega) v k (ones l) (by simp [Act.eval]) ((((hN.own.alloc _).alloc _).alloc _).drew)
            ⟨wr.heap.size + 1 + 1, 0, none⟩ 1 1 [.slice (some ⟨wr.heap.size, 0, none⟩) 128 128, .slice (some ⟨wr.heap.size + 1, 0, none⟩) 128 128, .bool false] (by simp [Act.eval]) rfl (World.news_of_block (hbs _ _ _)) (by simp [Value.oneCell']) (by omega) hb2 hb3 (by simp; omega) (wr.heap.size + 3) (by simp [World.drew]) ?_
           intro gg cap w1 hown1 hgrow hat hlt1
           have hN' := hN.step (wr.heap.size) (wr.heap.size + 1) gg cap (.inl ⟨rfl, rfl⟩) rfl hown1 hgrow hat
           have hlr : w.heap.size < ((((wr.alloc Z128).alloc Z128).alloc (.cells #[.slice (some ⟨wr.heap.size, 0, none⟩) 128 128, .slice (some ⟨wr.heap.size + 1, 0, none⟩) 128 128, .bool false] 112)).drew).heap.size := by simp [World.drew]; omega
           have hc1 := (hgrow.cell_far ⟨w.heap.size, 0, none⟩ hlr (fun e => hno e.symm)).trans (c3 _ _ _)
           have hf1 := (hgrow.frozen_far ⟨w.heap.size, 0, none⟩ hlr (fun e => hno e.symm)).trans (f3 _ _ _)
           clear hown1 hgrow hat hlt1 hlr)
        | (refine step_append_lies _ rfl (.tmp 23) (.tmp 27) _ rfl (w.heap.size + 1) 112 i0 _ 3 56 Try.underlying54 hi0 hz0 hz1 hz2 rfl (by omega) v k (ones l) (by simp [Act.eval]) ((((hN.own.alloc _).alloc _).alloc _).drew)
            ⟨wr.heap.size + 1 + 1, 0, none⟩ 1 1 [.slice (some ⟨wr.heap.size + 1, 0, none⟩) 128 128, .slice (some ⟨wr.heap.size, 0, none⟩) 128 128, .bool false] (by simp [Act.eval]) rfl (World.news_of_block (hbs _ _ _)) (by simp [Value.oneCell']) (by omega) hb2 hb3 (by simp; omega) (wr.heap.size + 3) (by simp [World.drew]) ?_
           intro gg cap w1 hown1 hgrow hat hlt1
           have hN' := hN.step (wr.heap.size + 1) (wr.heap.size) gg cap (.inr ⟨rfl, rfl⟩) rfl hown1 hgrow hat
           have hlr : w.heap.size < ((((wr.alloc Z128).alloc Z128).alloc (.cells #[.slice (some ⟨wr.heap.size + 1, 0, none⟩) 128 128, .slice (some ⟨wr.heap.size, 0, none⟩) 128 128, .bool false] 112)).drew).heap.size := by simp [World.drew]; omega
           have hc1 := (hgrow.cell_far ⟨w.heap.size, 0, none⟩ hlr (fun e => hno e.symm)).trans (c3 _ _ _)
           have hf1 := (hgrow.frozen_far ⟨w.heap.size, 0, none⟩ hlr (fun e => hno e.symm)).trans (f3 _ _ _)
           clear hown1 hgrow hat hlt1 hlr))
      all_goals
        go_wp2_with fail
        go_roundw
        case rel => exact ⟨k + 1, _, _, by omega, by go_num, hN'⟩
        case measure => simp [intOf]; omega
    · obtain rfl : k = n := by omega
      have i1 : ¬ (k : Int) < (k : Int) := by omega
      obtain ⟨B, cap, fp, hR, hfp⟩ := hN.done h1 h2
      go_wp2_with fail
      go_ret2
      exact ⟨_, B, cap, l, fp, rfl, hR, hN.kept, hfp⟩
end Go.Proofs.Ytbnflbkaogpnbaa
