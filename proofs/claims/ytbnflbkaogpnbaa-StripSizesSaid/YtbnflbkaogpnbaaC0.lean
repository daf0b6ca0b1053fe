/- Deeds, as they come in; SectorKeeps: the walk. -/
import Derived.Test.YtbnflbkaogpnbaaA0
import Derived.Test.YtbnflbkaogpnbaaP1
namespace Go.Proofs.Ytbnflbkaogpnbaa
open Go.RowKit

/-- A deed, as it lies in memory. -/
structure DeedR where
  kind : Int
  a : Int
  b : Int
  short : Int
  kA : Option Addr
  kn : Nat
  kc : Nat
  keep : List Int

def I64 (n : Int) : Prop := -9223372036854775808 ≤ n ∧ n ≤ 9223372036854775807

/-- A deed is well formed, and its list reads. -/
structure DeedR.Ok (w : World) (d : DeedR) : Prop where
  kind : I64 d.kind
  a : I64 d.a
  b : I64 d.b
  short : I64 d.short
  sl : SlAt w d.kA d.kn d.kc (d.keep.map i64v)
  small : d.kn * 8 ≤ 140737488351232
  keep : ∀ n ∈ d.keep, I64 n

/-- A slice of deeds. -/
structure DeedsAt (w : World) (A : Option Addr) (n c : Nat) (l : List DeedR) : Prop where
  len : l.length = n
  le : n ≤ c
  max : c ≤ maxLen
  ok : ∀ d ∈ l, d.Ok w
  cells : 0 < n → ∃ b o, A = some ⟨b, o, none⟩ ∧ b < w.heap.size ∧ ∀ i d, l[i]? = some d → w.cell? ⟨b, o + i * 5, none⟩ = some (.int .i64 d.kind) ∧ w.cell? ⟨b, o + i * 5 + 1, none⟩ = some (.int .i64 d.a) ∧
    w.cell? ⟨b, o + i * 5 + 2, none⟩ = some (.int .i64 d.b) ∧ w.cell? ⟨b, o + i * 5 + 3, none⟩ = some (.int .i64 d.short) ∧ w.cell? ⟨b, o + i * 5 + 4, none⟩ = some (.slice d.kA d.kn d.kc)

theorem DeedsAt.kept {w w' : World} {A : Option Addr} {n c : Nat} {l : List DeedR} (h : DeedsAt w A n c l) (hk : Kept [] w w') : DeedsAt w' A n c l :=
  ⟨h.len, h.le, h.max, fun d hd => { h.ok d hd with sl := (h.ok d hd).sl.kept hk (by simp) }, fun hn => by
    obtain ⟨b, o, hA, hb, hc⟩ := h.cells hn
    refine ⟨b, o, hA, Nat.lt_of_lt_of_le hb hk.size, fun i d hd => ?_⟩
    obtain ⟨h1, h2, h3, h4, h5⟩ := hc i d hd
    have e : ∀ j, w'.cell? ⟨b, j, none⟩ = w.cell? ⟨b, j, none⟩ := fun j => hk.cell (p := ⟨b, j, none⟩) hb (by simp)
    exact ⟨(e _).trans h1, (e _).trans h2, (e _).trans h3, (e _).trans h4, (e _).trans h5⟩⟩

theorem DeedsAt.at_ {w : World} {A : Option Addr} {n c : Nat} {l : List DeedR} (h : DeedsAt w A n c l) {k : Nat} (hk : k < n) :
    ∃ b o d, A = some ⟨b, o, none⟩ ∧ b < w.heap.size ∧ l[k]? = some d ∧ d.Ok w ∧ w.cell? ⟨b, o + k * 5, none⟩ = some (.int .i64 d.kind) ∧ w.cell? ⟨b, o + k * 5 + 1, none⟩ = some (.int .i64 d.a) ∧
    w.cell? ⟨b, o + k * 5 + 2, none⟩ = some (.int .i64 d.b) ∧ w.cell? ⟨b, o + k * 5 + 3, none⟩ = some (.int .i64 d.short) ∧ w.cell? ⟨b, o + k * 5 + 4, none⟩ = some (.slice d.kA d.kn d.kc) := by
  obtain ⟨b, o, hA, hb, hc⟩ := h.cells (by omega)
  have hd : l[k]? = some (l[k]'(by rw [h.len]; exact hk)) := List.getElem?_eq_getElem (by rw [h.len]; exact hk)
  exact ⟨b, o, _, hA, hb, hd, h.ok _ (List.mem_of_getElem? hd), hc k _ hd⟩

/-- The world of SectorKeeps at a round's head. -/
structure KpAt (w : World) (a bn bs k : Nat) (now sure : List Int) (d : Dev) (fp : List Nat) (wr : World) : Prop where
  dv : Dv wr a fp d
  new : ∀ j ∈ fp, w.heap.size ≤ j
  nfp : bn ∉ fp
  sfp : bs ∉ fp
  rown : wr.heap[bn]? = some (.cells (now.map i64v).toArray 28 (0, 0))
  rows : wr.heap[bs]? = some (.cells (sure.map i64v).toArray 28 (0, 0))
  inv : KInv k d (now.map byteOf) (sure.map byteOf)
  kept : Kept [] w wr

def KpRel (w : World) (a bn bs n : Nat) (i : Value) (wr : World) : Prop :=
  ∃ k now sure d fp, k ≤ n ∧ k ≤ 50 ∧ i = .int .i64 (k : Nat) ∧ KpAt w a bn bs k now sure d fp wr

theorem spliced_all (cs : Array Value) (vs : List Value) (h : vs.length = cs.size) : spliced cs 0 vs = vs.toArray := by
  unfold spliced
  rw [List.take_zero, List.nil_append, Nat.zero_add, List.drop_of_length_le (by rw [Array.length_toList]; omega), List.append_nil]

theorem row_there {w : World} {g : Nat} {cs : Array Value} {t : TypeId} (h : w.heap[g]? = some (.cells cs t (0, 0))) : w.there g 0 cs.size := by
  intro j hj
  refine ⟨?_, blk_frozen h _⟩
  rw [blk_cell h, Array.getElem?_eq_getElem (by omega)]
  rfl

theorem row_range {w : World} {g : Nat} {cs : List Value} {t : TypeId} (h : w.heap[g]? = some (.cells cs.toArray t (0, 0))) : w.rangeAt g 0 cs := by
  intro j v hj
  rw [blk_cell h, List.getElem?_toArray, Nat.zero_add]
  exact hj

theorem size_six : (Try.prog.info? 28).map (·.size) = some 6 := by kernel_rfl

theorem KpAt.start {w w1 : World} {a : Nat} {f1 : List Nat} (hD : Dv w1 a f1 (Dev.new 6)) (hA : Kept [] w w1) (hN : ∀ j ∈ f1, w.heap.size ≤ j) :
    KpAt w a w1.heap.size (w1.heap.size + 1) 0 (List.replicate 6 0) (List.replicate 6 0) (Dev.new 6) f1 ((w1.alloc (.cells #[.int .i64 0, .int .i64 0, .int .i64 0, .int .i64 0, .int .i64 0, .int .i64 0] 28)).alloc (.cells #[.int .i64 0, .int .i64 0, .int .i64 0, .int .i64 0, .int .i64 0, .int .i64 0] 28)) := by
  have hk := (Kept.alloc [] w1 (.cells #[.int .i64 0, .int .i64 0, .int .i64 0, .int .i64 0, .int .i64 0, .int .i64 0] 28)).trans (Kept.alloc [] _ (.cells #[.int .i64 0, .int .i64 0, .int .i64 0, .int .i64 0, .int .i64 0, .int .i64 0] 28))
  refine ⟨hD.new_kept hk, hN, hD.old (Nat.le_refl _), hD.old (by omega), ?_, ?_, KInv.start, hA.trans hk⟩
  · rw [Below.heap_alloc _ _ _ (by simp), heap_alloc_new]
    rfl
  · have h := heap_alloc_new (w1.alloc (.cells #[.int .i64 0, .int .i64 0, .int .i64 0, .int .i64 0, .int .i64 0, .int .i64 0] 28)) (.cells #[.int .i64 0, .int .i64 0, .int .i64 0, .int .i64 0, .int .i64 0, .int .i64 0] 28)
    simp only [World.size_alloc] at h
    exact h

theorem KpAt.ne {w : World} {a bn bs k : Nat} {now sure : List Int} {d : Dev} {fp : List Nat} {wr : World} (h : KpAt w a bn bs k now sure d fp wr) : now.length = 6 ∧ sure.length = 6 ∧ bn < wr.heap.size ∧ bs < wr.heap.size :=
  ⟨by simpa using h.inv.len, by simpa using h.inv.slen, World.lt_of_heap h.rown, World.lt_of_heap h.rows⟩

/-- Behind a flush. -/
theorem KpAt.flushed {w : World} {a bn bs k : Nat} {now sure : List Int} {d : Dev} {fp : List Nat} {wr : World} (h : KpAt w a bn bs k now sure d fp wr) (hne : bn ≠ bs) (hs : w.heap.size ≤ bs) {d' : Dev} {fp' : List Nat} {w2 : World}
    (hD : Dv w2 a fp' d') (hk : Kept fp wr w2) (hn : ∀ j ∈ fp', j ∈ fp ∨ wr.heap.size ≤ j) (hi : KInv (k + 1) d' (now.map byteOf) (now.map byteOf)) : KpAt w a bn bs (k + 1) now now d' fp' (w2.setCells bs 0 (now.map i64v)) := by
  obtain ⟨l1, l2, l3, l4⟩ := h.ne
  obtain ⟨hA, hN⟩ := news h.kept h.new hk hn
  have hk3 := setCells_kept bs (now.map i64v) 0 w2
  have hnf : bn ∉ fp' := fun hm => by
    rcases hn bn hm with h1 | h1
    · exact h.nfp h1
    · omega
  have hsf : bs ∉ fp' := fun hm => by
    rcases hn bs hm with h1 | h1
    · exact h.sfp h1
    · omega
  have hrn := (hk.block bn l3 h.nfp).trans h.rown
  have hrs := (hk.block bs l4 h.sfp).trans h.rows
  refine ⟨hD.kept hk3 (fun j hj e => hsf (by simp at e; exact e ▸ hj)), hN, hnf, hsf, ?_, ?_, hi, hA.trans' hk3 (fun i hi => .inr (by simp at hi; omega))⟩
  · exact (hk3.block bn (World.lt_of_heap hrn) (by simpa using hne)).trans hrn
  · rw [setCells_heap bs 28 (now.map i64v) 0 w2 _ hrs (by simp [l1, l2]), spliced_all _ _ (by simp [l1, l2])]

/-- Behind a write. -/
theorem KpAt.written {w : World} {a bn bs k : Nat} {now sure : List Int} {d : Dev} {fp : List Nat} {wr wf : World} (h : KpAt w a bn bs k now sure d fp wr) (hne : bn ≠ bs) (hs : w.heap.size ≤ bn) (hkf : Kept [] wr wf) {d' : Dev} {fp' : List Nat} {w2 : World}
    (hD : Dv w2 a fp' d') (hk : Kept fp wf w2) (hn : ∀ j ∈ fp', j ∈ fp ∨ wf.heap.size ≤ j) {q : Nat} {x : Int} (hi : KInv (k + 1) d' ((now.map byteOf).set q (byteOf x)) (sure.map byteOf)) : KpAt w a bn bs (k + 1) (now.set q x) sure d' fp' (w2.setCell ⟨bn, q, none⟩ (.int .i64 x)) := by
  obtain ⟨l1, l2, l3, l4⟩ := h.ne
  obtain ⟨hA, hN⟩ := news (h.kept.trans hkf) h.new hk hn
  have hk3 : Kept [bn] w2 (w2.setCell ⟨bn, q, none⟩ (.int .i64 x)) := Kept.setCell (by simp) _
  have hnf : bn ∉ fp' := fun hm => by
    rcases hn bn hm with h1 | h1
    · exact h.nfp h1
    · have := hkf.size; omega
  have hsf : bs ∉ fp' := fun hm => by
    rcases hn bs hm with h1 | h1
    · exact h.sfp h1
    · have := hkf.size; omega
  have hsz := hkf.size
  have hrn := (hk.block bn (by omega) h.nfp).trans ((hkf.block bn l3 (by simp)).trans h.rown)
  have hrs := (hk.block bs (by omega) h.sfp).trans ((hkf.block bs l4 (by simp)).trans h.rows)
  refine ⟨hD.kept hk3 (fun j hj e => hnf (by simp at e; exact e ▸ hj)), hN, hnf, hsf, ?_, ?_, by rw [List.map_set]; exact hi, hA.trans' hk3 (fun i hi => .inr (by simp at hi; omega))⟩
  · rw [heap_set hrn, List.map_set]
    simp [i64v]
  · exact (hk3.block bs (World.lt_of_heap hrs) (by simpa using fun e => hne e.symm)).trans hrs

theorem KpAt.nowCell {w : World} {a bn bs k : Nat} {now sure : List Int} {d : Dev} {fp : List Nat} {wr : World} (h : KpAt w a bn bs k now sure d fp wr) {q : Nat} (hq : q < 6) : wr.cell? ⟨bn, q, none⟩ = some (.int .i64 (now[q]?.getD 0)) := by
  rw [blk_cell h.rown, List.getElem?_toArray, List.getElem?_map, List.getElem?_eq_getElem (by rw [h.ne.1]; exact hq)]
  rfl
theorem KpAt.sureCell {w : World} {a bn bs k : Nat} {now sure : List Int} {d : Dev} {fp : List Nat} {wr : World} (h : KpAt w a bn bs k now sure d fp wr) {q : Nat} (hq : q < 6) : wr.cell? ⟨bs, q, none⟩ = some (.int .i64 (sure[q]?.getD 0)) := by
  rw [blk_cell h.rows, List.getElem?_toArray, List.getElem?_map, List.getElem?_eq_getElem (by rw [h.ne.2.1]; exact hq)]
  rfl

/-- The world of SectorKeeps behind the loss. -/
structure KpEnd (w : World) (a bn bs : Nat) (now sure : List Int) (d : Dev) (fp : List Nat) (wr : World) : Prop where
  dv : Dv wr a fp d
  len : now.length = 6
  slen : sure.length = 6
  secs : d.secs.length = 6
  dead : d.dead = false
  rown : wr.heap[bn]? = some (.cells (now.map i64v).toArray 28 (0, 0))
  rows : wr.heap[bs]? = some (.cells (sure.map i64v).toArray 28 (0, 0))
  fine : ∀ i, i < 6 → d.secs[i]? = some (fullB (byteOf (now[i]?.getD 0))) ∨ d.secs[i]? = some (fullB (byteOf (sure[i]?.getD 0)))
  all : Kept [] w wr

theorem KpEnd.kept' {w : World} {a bn bs : Nat} {now sure : List Int} {d : Dev} {fp : List Nat} {wr w' : World} (h : KpEnd w a bn bs now sure d fp wr) (hk : Kept [] wr w') : KpEnd w a bn bs now sure d fp w' :=
  { h with
    dv := h.dv.new_kept hk
    rown := (hk.block bn (World.lt_of_heap h.rown) (by simp)).trans h.rown
    rows := (hk.block bs (World.lt_of_heap h.rows) (by simp)).trans h.rows
    all := h.all.trans hk }

theorem KpEnd.nowCell {w : World} {a bn bs : Nat} {now sure : List Int} {d : Dev} {fp : List Nat} {wr : World} (h : KpEnd w a bn bs now sure d fp wr) {q : Nat} (hq : q < 6) : wr.cell? ⟨bn, q, none⟩ = some (.int .i64 (now[q]?.getD 0)) := by
  rw [blk_cell h.rown, List.getElem?_toArray, List.getElem?_map, List.getElem?_eq_getElem (by rw [h.len]; exact hq)]
  rfl
theorem KpEnd.sureCell {w : World} {a bn bs : Nat} {now sure : List Int} {d : Dev} {fp : List Nat} {wr : World} (h : KpEnd w a bn bs now sure d fp wr) {q : Nat} (hq : q < 6) : wr.cell? ⟨bs, q, none⟩ = some (.int .i64 (sure[q]?.getD 0)) := by
  rw [blk_cell h.rows, List.getElem?_toArray, List.getElem?_map, List.getElem?_eq_getElem (by rw [h.slen]; exact hq)]
  rfl

theorem KpEnd.either {w : World} {a bn bs : Nat} {now sure : List Int} {d : Dev} {fp : List Nat} {wr : World} (h : KpEnd w a bn bs now sure d fp wr) {q : Nat} (hq : q < 6) :
    d.hasB q (now[q]?.getD 0) = true ∨ d.hasB q (sure[q]?.getD 0) = true := by
  have hat : d.at_ (q : Int) = 0 := by
    have := h.secs
    simp [Dev.at_, h.dead]
    omega
  rcases h.fine q hq with h1 | h1
  · exact .inl (hasB_of hat rfl (by simpa using h1))
  · exact .inr (hasB_of hat rfl (by simpa using h1))

def EndRel (w : World) (a bn bs : Nat) (now sure : List Int) (d : Dev) (fp : List Nat) (i : Value) (wr : World) : Prop :=
  ∃ q : Nat, q ≤ 6 ∧ i = .int .i64 (q : Nat) ∧ KpEnd w a bn bs now sure d fp wr

set_option maxHeartbeats 4000000 in
set_option maxRecDepth 100000 in
theorem sectorKeeps_walk (w : World) (A : Option Addr) (n c : Nat) (l : List DeedR) (hl : DeedsAt w A n c l) (B : Option Addr) (m e : Nat) (keep : List Int) (hk : SlAt w B m e (keep.map i64v)) :
    Calls Try.prog 3 #[.slice A n c, .slice B m e] w (TruePost w) := by
  have hnc := hl.le; have hcm := hl.max
  unfold maxLen at hcm
  go_enter Try.func3, Try.ntmps3
  go_wp2_with fail
  refine (new_any 6 _ (by omega) (by omega)).mono ?_
  rintro e w1 ⟨a, f1, rfl, hD1, hA1, hN1⟩
  have hst := KpAt.start hD1 hA1 hN1
  have hne : w1.heap.size ≠ w1.heap.size + 1 := by omega
  have hsn : w.heap.size ≤ w1.heap.size := hA1.size
  have hss : w.heap.size ≤ w1.heap.size + 1 := by omega
  clear hD1 hA1 hN1
  go_wp2_with fail
  generalize ((w1.alloc (.cells #[.int .i64 0, .int .i64 0, .int .i64 0, .int .i64 0, .int .i64 0, .int .i64 0] 28)).alloc (.cells #[.int .i64 0, .int .i64 0, .int .i64 0, .int .i64 0, .int .i64 0, .int .i64 0] 28)) = W at hst
  generalize w1.heap.size + 1 = bs at *
  generalize w1.heap.size = bn at *
  clear w1
  go_loopw [9] (fun i wr => KpRel w a bn bs n i wr) (fun i _ => n - (intOf i).toNat)
  case atStart => exact ⟨0, _, _, _, _, Nat.zero_le _, by omega, rfl, hst⟩
  case round =>
    clear hst
    obtain ⟨k, now, sure, d, fp, hkn, hk5, rfl, hK⟩ := hrel
    by_cases hlt : k < n
    · by_cases h50 : k < 50
      · obtain ⟨b, o, dk, hAe, hbl, hdk, hok, g0, g1, g2, g3, g4⟩ := (hl.kept hK.kept).at_ hlt
        subst hAe
        have i1 : (k : Int) < (n : Int) := by omega
        have i2 : (k : Int) < 50 := by omega
        have ha := hok.a; have hb := hok.b; have hkd := hok.kind
        unfold I64 at ha hb hkd
        obtain ⟨q, hq⟩ : ∃ q : Nat, dk.a % 6 = q := ⟨_, (Int.toNat_of_nonneg (Int.emod_nonneg _ (by omega))).symm⟩
        have hq6 : q < 6 := by have := Int.emod_lt_of_pos dk.a (show (0 : Int) < 6 by omega); omega
        have ca := bring_any dk.a 6 wr (by omega) (by omega) ha.1 ha.2
        rw [hq] at ca
        have ck := bring_any dk.kind 4 wr (by omega) (by omega) hkd.1 hkd.2
        clear g3 g4 hdk hok hq
        go_wp2_with fail
        refine ca.mono ?_
        clear ca
        rintro e w' ⟨rfl, rfl⟩
        go_wp2_with fail
        by_cases hk0 : dk.kind % 4 = 0
        · rw [hk0] at ck
          refine ck.mono ?_
          clear ck hk0
          rintro e w' ⟨rfl, rfl⟩
          obtain ⟨d', hd', hi'⟩ := hK.inv.flush
          have cf := flush_dv hK.dv (by have := hK.inv.works; omega)
          rw [hd'] at cf
          go_wp2_with fail
          refine cf.mono ?_
          clear cf hd'
          rintro e w2 ⟨rfl, f2, hD2, hk2, hn2⟩
          obtain ⟨l1, l2, l3, l4⟩ := hK.ne
          have hr2 := row_range ((hk2.block bn l3 hK.nfp).trans hK.rown)
          have ht2 := row_there ((hk2.block bs l4 hK.sfp).trans hK.rows)
          have hnew := hK.flushed hne hss hD2 hk2 hn2 hi'
          have L1 := Lib.hid l1; have L2 := Lib.hid l2
          clear l1 l2 hD2 hk2 hn2 hi' hK
          go_wp2_with (first | (refine wpList_load_mid rfl 28 _ rfl bn 0 rfl (now.map i64v) _ hr2 Try.underlying28 rfl (by rw [size_six]; simp [L1.out]) ?_) | (refine wpList_store_mid rfl 28 _ _ rfl bs 0 (now.map i64v).toArray rfl rfl (by simpa [L1.out, L2.out] using ht2) (by rw [size_six]; simp [L1.out]) (all_oneCell_toArray (one_i64 now)) ?_))
          go_roundw
          case rel => exact ⟨k + 1, _, _, _, _, by omega, by omega, by go_num, hnew⟩
          case measure => simp [intOf]; omega
        · have hk1 : (dk.kind % 4 == 0) = false := by simpa using hk0
          refine ck.mono ?_
          clear ck hk0
          rintro e w' ⟨rfl, rfl⟩
          obtain ⟨r, hr⟩ : ∃ r : Nat, dk.b % 200 = r := ⟨_, (Int.toNat_of_nonneg (Int.emod_nonneg _ (by omega))).symm⟩
          have hr200 : (r : Int) < 200 := by have := Int.emod_lt_of_pos dk.b (show (0 : Int) < 200 by omega); omega
          have cb := bring_any dk.b 200 wr (by omega) (by omega) hb.1 hb.2
          rw [hr] at cb
          clear hr
          go_wp2_with fail
          refine cb.mono ?_
          clear cb
          rintro e w' ⟨rfl, rfl⟩
          go_wp2_with fail
          refine (full_std (1 + (r : Int)) (byteOf (1 + (r : Int))) rfl _).mono ?_
          rintro e w2 ⟨A2, c2, rfl, hown, hbel⟩
          obtain ⟨hs, hA⟩ := ClonePost.sl hown
          have hO := fun p hp => hK.dv.old (hA p hp)
          have hkf := Kept.of_below (F := []) hbel
          have hDf := hK.dv.new_kept hkf
          clear hown hbel hA
          obtain ⟨d', hd', hi'⟩ := hK.inv.write hq6 (byteOf (1 + (r : Int)))
          have cw := write_dv hDf q (fullB (byteOf (1 + (r : Int)))) A2 128 c2 hs hO (by have := hK.inv.works; omega)
          rw [hd'] at cw
          go_wp2_with fail
          refine cw.mono ?_
          clear cw hd' hs hO
          rintro e w3 ⟨rfl, f3, hD3, hk3, hn3⟩
          have hnew := hK.written hne hsn hkf hD3 hk3 hn3 hi'
          obtain ⟨l1, l2, l3, l4⟩ := hK.ne
          have hbn := (hk3.block bn (by have := hkf.size; omega) hK.nfp).trans ((hkf.block bn l3 (by simp)).trans hK.rown)
          have hcn : w3.cell? ⟨bn, q, none⟩ = some (.int .i64 (now[q]?.getD 0)) := by
            rw [blk_cell hbn, List.getElem?_toArray, List.getElem?_map, List.getElem?_eq_getElem (by omega)]
            rfl
          have hcf : w3.frozen? ⟨bn, q, none⟩ = false := blk_frozen hbn q
          have hq7 : (q : Int) < 6 := by omega
          clear l1 l2 hD3 hk3 hn3 hi' hK hkf hDf hbn
          go_wp2_with fail
          go_roundw
          case rel => exact ⟨k + 1, _, _, _, _, by omega, by omega, by go_num, hnew⟩
          case measure => simp [intOf]; omega
      · have i1 : (k : Int) < (n : Int) := by omega
        have i2 : ¬ (k : Int) < 50 := by omega
        have hkk := hK.kept
        have hBf : ∀ p, B = some p → 0 < m → p.block ∉ fp := fun p hp hm hin => by
          obtain ⟨b, o, e, hb, _⟩ := hk.cells hm
          rw [hp] at e
          cases e
          have h9 : w.heap.size ≤ b := hK.new _ hin
          omega
        have cc := crash_dv hK.dv B m e keep (hk.kept hkk (by simp)) hBf
        obtain ⟨d', hd', he1, he2, he3⟩ := hK.inv.ends keep
        rw [hd'] at cc
        go_wp2_with fail
        refine cc.mono ?_
        clear cc hd' hBf
        rintro e w2 ⟨rfl, f2, hD2, hk2, hn2⟩
        obtain ⟨l1, l2, l3, l4⟩ := hK.ne
        have hrn := (hk2.block bn l3 hK.nfp).trans hK.rown
        have hrs := (hk2.block bs l4 hK.sfp).trans hK.rows
        have hnf : bn ∉ f2 := fun hm => by
          rcases hn2 bn hm with h1 | h1
          · exact hK.nfp h1
          · omega
        have hsf : bs ∉ f2 := fun hm => by
          rcases hn2 bs hm with h1 | h1
          · exact hK.sfp h1
          · omega
        obtain ⟨hA2, hN2⟩ := news hK.kept hK.new hk2 hn2
        have l3' := hk2.size
        have cb := boot_dv hD2
        clear hk2 hn2 hkk hK
        go_wp2_with fail
        refine cb.mono ?_
        clear cb
        rintro e w3 ⟨rfl, f3, hD3, hk3, hn3⟩
        have hrn := (hk3.block bn (by omega) hnf).trans hrn
        have hrs := (hk3.block bs (by omega) hsf).trans hrs
        obtain ⟨hA3, hN3⟩ := news hA2 hN2 hk3 hn3
        have hE : KpEnd w a bn bs now sure d'.boot f3 w3 := ⟨hD3, by omega, by omega, he1, he2, hrn, hrs, fun i hi => by
          have := he3 i hi
          simpa [List.getElem?_map, List.getElem?_eq_getElem (show i < now.length by omega), List.getElem?_eq_getElem (show i < sure.length by omega)] using this, hA3⟩
        clear hnf hsf hA2 hN2 l3' hk3 hn3 hrn hrs hA3 hN3 hD2 hD3 he1 he2 he3 l1 l2 l3 l4
        go_wp2_with fail
        go_loopw [12] (fun i wr => EndRel w a bn bs now sure d'.boot f3 i wr) (fun i _ => 6 - (intOf i).toNat)
        case atStart => exact ⟨0, by omega, rfl, hE⟩
        case round =>
          clear hE
          obtain ⟨q, hq6, rfl, hE⟩ := hrel
          by_cases hq : q < 6
          · have hq7 : (q : Int) < 6 := by omega
            have n1 := hE.nowCell hq
            have n2 := hE.sureCell hq
            have ch := has_dv hE.dv q (now[q]?.getD 0)
            go_wp2_with fail
            refine ch.mono ?_
            clear ch
            rintro e w4 ⟨rfl, hk4⟩
            have hE4 := hE.kept' hk4
            have n2' := hE4.sureCell hq
            have hor := hE.either hq
            by_cases hb1 : d'.boot.hasB q (now[q]?.getD 0) = true
            · have HB := Lib.hid hb1
              clear n1 n2 hE
              go_wp2_with fail
              go_roundw
              case rel => exact ⟨q + 1, by omega, by go_num, hE4⟩
              case measure => simp [intOf]; omega
            · have hb2 : d'.boot.hasB q (sure[q]?.getD 0) = true := by
                rcases hor with h | h
                · exact absurd h hb1
                · exact h
              have hb1' : d'.boot.hasB q (now[q]?.getD 0) = false := by simpa using hb1
              have ch2 := has_dv hE4.dv q (sure[q]?.getD 0)
              rw [hb2] at ch2
              clear n1 n2 hE hb1 hor hb2
              go_wp2_with fail
              refine ch2.mono ?_
              clear ch2
              rintro e w5 ⟨rfl, hk5⟩
              have hE5 := hE4.kept' hk5
              go_wp2_with fail
              go_roundw
              case rel => exact ⟨q + 1, by omega, by go_num, hE5⟩
              case measure => simp [intOf]; omega
          · obtain rfl : q = 6 := by omega
            have hq7 : ¬ ((6 : Nat) : Int) < 6 := by omega
            go_wp2_with fail
            refine (awake10_any _).mono ?_
            rintro e w4 ⟨rfl, hk4⟩
            go_wp2_with fail
            go_ret
            exact ⟨rfl, hE.all.trans hk4⟩
    · have i1 : ¬ (k : Int) < (n : Int) := by omega
      have hkk := hK.kept
      have hBf : ∀ p, B = some p → 0 < m → p.block ∉ fp := fun p hp hm hin => by
        obtain ⟨b, o, e, hb, _⟩ := hk.cells hm
        rw [hp] at e
        cases e
        have h9 : w.heap.size ≤ b := hK.new _ hin
        omega
      have cc := crash_dv hK.dv B m e keep (hk.kept hkk (by simp)) hBf
      obtain ⟨d', hd', he1, he2, he3⟩ := hK.inv.ends keep
      rw [hd'] at cc
      go_wp2_with fail
      refine cc.mono ?_
      clear cc hd' hBf
      rintro e w2 ⟨rfl, f2, hD2, hk2, hn2⟩
      obtain ⟨l1, l2, l3, l4⟩ := hK.ne
      have hrn := (hk2.block bn l3 hK.nfp).trans hK.rown
      have hrs := (hk2.block bs l4 hK.sfp).trans hK.rows
      have hnf : bn ∉ f2 := fun hm => by
        rcases hn2 bn hm with h1 | h1
        · exact hK.nfp h1
        · omega
      have hsf : bs ∉ f2 := fun hm => by
        rcases hn2 bs hm with h1 | h1
        · exact hK.sfp h1
        · omega
      obtain ⟨hA2, hN2⟩ := news hK.kept hK.new hk2 hn2
      have l3' := hk2.size
      have cb := boot_dv hD2
      clear hk2 hn2 hkk hK
      go_wp2_with fail
      refine cb.mono ?_
      clear cb
      rintro e w3 ⟨rfl, f3, hD3, hk3, hn3⟩
      have hrn := (hk3.block bn (by omega) hnf).trans hrn
      have hrs := (hk3.block bs (by omega) hsf).trans hrs
      obtain ⟨hA3, hN3⟩ := news hA2 hN2 hk3 hn3
      have hE : KpEnd w a bn bs now sure d'.boot f3 w3 := ⟨hD3, by omega, by omega, he1, he2, hrn, hrs, fun i hi => by
        have := he3 i hi
        simpa [List.getElem?_map, List.getElem?_eq_getElem (show i < now.length by omega), List.getElem?_eq_getElem (show i < sure.length by omega)] using this, hA3⟩
      clear hnf hsf hA2 hN2 l3' hk3 hn3 hrn hrs hA3 hN3 hD2 hD3 he1 he2 he3 l1 l2 l3 l4
      go_wp2_with fail
      go_loopw [12] (fun i wr => EndRel w a bn bs now sure d'.boot f3 i wr) (fun i _ => 6 - (intOf i).toNat)
      case atStart => exact ⟨0, by omega, rfl, hE⟩
      case round =>
        clear hE
        obtain ⟨q, hq6, rfl, hE⟩ := hrel
        by_cases hq : q < 6
        · have hq7 : (q : Int) < 6 := by omega
          have n1 := hE.nowCell hq
          have n2 := hE.sureCell hq
          have ch := has_dv hE.dv q (now[q]?.getD 0)
          go_wp2_with fail
          refine ch.mono ?_
          clear ch
          rintro e w4 ⟨rfl, hk4⟩
          have hE4 := hE.kept' hk4
          have n2' := hE4.sureCell hq
          have hor := hE.either hq
          by_cases hb1 : d'.boot.hasB q (now[q]?.getD 0) = true
          · have HB := Lib.hid hb1
            clear n1 n2 hE
            go_wp2_with fail
            go_roundw
            case rel => exact ⟨q + 1, by omega, by go_num, hE4⟩
            case measure => simp [intOf]; omega
          · have hb2 : d'.boot.hasB q (sure[q]?.getD 0) = true := by
              rcases hor with h | h
              · exact absurd h hb1
              · exact h
            have hb1' : d'.boot.hasB q (now[q]?.getD 0) = false := by simpa using hb1
            have ch2 := has_dv hE4.dv q (sure[q]?.getD 0)
            rw [hb2] at ch2
            clear n1 n2 hE hb1 hor hb2
            go_wp2_with fail
            refine ch2.mono ?_
            clear ch2
            rintro e w5 ⟨rfl, hk5⟩
            have hE5 := hE4.kept' hk5
            go_wp2_with fail
            go_roundw
            case rel => exact ⟨q + 1, by omega, by go_num, hE5⟩
            case measure => simp [intOf]; omega
        · obtain rfl : q = 6 := by omega
          have hq7 : ¬ ((6 : Nat) : Int) < 6 := by omega
          go_wp2_with fail
          refine (awake10_any _).mono ?_
          rintro e w4 ⟨rfl, hk4⟩
          go_wp2_with fail
          go_ret
          exact ⟨rfl, hE.all.trans hk4⟩
end Go.Proofs.Ytbnflbkaogpnbaa
