/- Texts in one: V7a. -/
import Derived.Test.YtbnflbkaogpnbaaGreatPAG
namespace Go.Proofs.YtbnflbkaogpnbaaGreat
open Go.RowKit Go.Shelf
/-- A goal at which a walk stops. -/
def Hold (p : Prop) : Prop := p
theorem Hold.of {p : Prop} (h : Hold p) : p := h
/-- What stands in the way of an Open. -/
def openBad (d : Dev) (first many fin : Int) : Int :=
 if d.at_ 0 ≠ 0 then d.at_ 0
 else if first < 0 ∨ (d.secs.length : Int) < first ∨ many < 1 ∨ (d.secs.length : Int) - first < many then 9
 else if fin < 0 ∨ 128 * many < fin then 2 else 0
/-- What an Open does. -/
def OpenPost (w : World) (a : Nat) (d : Dev) (first many fin : Int) (e : Ending) (w' : World) : Prop :=
  Kept [] w w' ∧
  ((openBad d first many fin ≠ 0 ∧ e = .returned (.tuple #[.pointer none, .slice none 0 0, .int .i64 (openBad d first many fin)])) ∨
   (openBad d first many fin = 0 ∧ NoRecs ((d.bytesAt first.toNat).take fin.toNat) ∧ e = .returned (.tuple #[.pointer none, .slice none 0 0, .int .i64 110])) ∨
   (openBad d first many fin = 0 ∧ ∃ (z : Nat) (sp : List Nat) (A : Option Addr) (n c : Nat) (l : List Part), e = .returned (.tuple #[.pointer (some ⟨z, 0, none⟩), .slice A n c, .int .i64 0]) ∧ BytessAt w' A n c l ∧ Small (texts l) ∧ (d.bytesAt first.toNat).take fin.toNat = recs (texts l) ∧
     StAt w' z a sp ⟨first.toNat, many.toNat, fin.toNat, ((d.bytesAt first.toNat).take fin.toNat).drop (fin.toNat - fin.toNat % 128)⟩ ∧ (∀ j ∈ sp, w.heap.size ≤ j) ∧
     (∀ p, A = some p → w.heap.size ≤ p.block ∧ p.block ∉ sp) ∧ ∀ q ∈ l, ∀ p, q.A = some p → w.heap.size ≤ p.block ∧ p.block ∉ sp))
theorem results_cells3 {P : Program} {fn : Func} {p1 p2 p3 : Tmp} {t1 t2 t3 : TypeId} (h : fn.results = #[.cell p1 t1, .cell p2 t2, .cell p3 t3]) (tmps : Array Value) (w : World) (b1 b2 b3 : Nat) (v1 v2 v3 : Value)
  (e1 : tmps.getD p1 undef = .pointer (some ⟨b1, 0, none⟩)) (e2 : tmps.getD p2 undef = .pointer (some ⟨b2, 0, none⟩)) (e3 : tmps.getD p3 undef = .pointer (some ⟨b3, 0, none⟩))
  (c1 : w.cell? ⟨b1, 0, none⟩ = some v1) (c2 : w.cell? ⟨b2, 0, none⟩ = some v2) (c3 : w.cell? ⟨b3, 0, none⟩ = some v3)
  (g1 : ∀ w, (isAgg t1).run P w = .ok false w) (g2 : ∀ w, (isAgg t2).run P w = .ok false w) (g3 : ∀ w, (isAgg t3).run P w = .ok false w) : (results fn tmps).run P w = .ok (.tuple #[v1, v2, v3]) w := by
 have e1' : tmps[p1]?.getD undef = .pointer (some ⟨b1, 0, none⟩) := by simpa using e1
 have e2' : tmps[p2]?.getD undef = .pointer (some ⟨b2, 0, none⟩) := by simpa using e2
 have e3' : tmps[p3]?.getD undef = .pointer (some ⟨b3, 0, none⟩) := by simpa using e3
 simp [results, h, e1', e2', e3', asAddr, loadVar, Sem.run_bind, g1, g2, g3, Result.andThen, c1, c2, c3]
theorem agg_strip (w : World) : (isAgg 31).run Tryz.prog w = .ok false w := by simp [isAgg, Sem.run_bind, run_underlying Tryz.underlying31, Result.andThen]
theorem agg_bytess (w : World) : (isAgg 37).run Tryz.prog w = .ok false w := by simp [isAgg, Sem.run_bind, run_underlying Tryz.underlying37, Result.andThen]
theorem agg_errno (w : World) : (isAgg 23).run Tryz.prog w = .ok false w := by simp [isAgg, Sem.run_bind, run_underlying Tryz.underlying23, Result.andThen]
/-- The frame of an Open: its device, its three results. -/
structure OpAt (w W : World) (a : Nat) (fp : List Nat) (d : Dev) : Prop where
 dv : Dv W a fp d
 r1 : W.heap[w.heap.size]? = some (.cells #[.pointer none] 31 (0, 0))
 r2 : W.heap[w.heap.size + 1]? = some (.cells #[.slice none 0 0] 37 (0, 0))
 r3 : W.heap[w.heap.size + 1 + 1]? = some (.cells #[.int .i64 0] 23 (0, 0))
 kept : Kept [] w W
theorem OpAt.next {w W W' : World} {a : Nat} {fp : List Nat} {d : Dev} (h : OpAt w W a fp d) (hk : Kept [] W W') : OpAt w W' a fp d :=
 ⟨h.dv.new_kept hk, (hk.block _ (World.lt_of_heap h.r1) (by simp)).trans h.r1, (hk.block _ (World.lt_of_heap h.r2) (by simp)).trans h.r2, (hk.block _ (World.lt_of_heap h.r3) (by simp)).trans h.r3, h.kept.trans hk⟩
theorem OpAt.cells {w W : World} {a : Nat} {fp : List Nat} {d : Dev} (h : OpAt w W a fp d) : W.cell? ⟨w.heap.size, 0, none⟩ = some (.pointer none) ∧ W.cell? ⟨w.heap.size + 1, 0, none⟩ = some (.slice none 0 0) ∧ W.cell? ⟨w.heap.size + 1 + 1, 0, none⟩ = some (.int .i64 0) ∧
  W.frozen? ⟨w.heap.size, 0, none⟩ = false ∧ W.frozen? ⟨w.heap.size + 1, 0, none⟩ = false ∧ W.frozen? ⟨w.heap.size + 1 + 1, 0, none⟩ = false :=
 ⟨blk_cell h.r1 0, blk_cell h.r2 0, blk_cell h.r3 0, blk_frozen h.r1 0, blk_frozen h.r2 0, blk_frozen h.r3 0⟩
/-- The results, stored. -/
theorem OpAt.set3 {w W : World} {a : Nat} {fp : List Nat} {d : Dev} (h : OpAt w W a fp d) (v1 v2 v3 : Value) :
  (((W.setCell ⟨w.heap.size, 0, none⟩ v1).setCell ⟨w.heap.size + 1, 0, none⟩ v2).setCell ⟨w.heap.size + 1 + 1, 0, none⟩ v3).cell? ⟨w.heap.size, 0, none⟩ = some v1 ∧
  (((W.setCell ⟨w.heap.size, 0, none⟩ v1).setCell ⟨w.heap.size + 1, 0, none⟩ v2).setCell ⟨w.heap.size + 1 + 1, 0, none⟩ v3).cell? ⟨w.heap.size + 1, 0, none⟩ = some v2 ∧
  (((W.setCell ⟨w.heap.size, 0, none⟩ v1).setCell ⟨w.heap.size + 1, 0, none⟩ v2).setCell ⟨w.heap.size + 1 + 1, 0, none⟩ v3).cell? ⟨w.heap.size + 1 + 1, 0, none⟩ = some v3 ∧
  Kept [w.heap.size, w.heap.size + 1, w.heap.size + 1 + 1] W (((W.setCell ⟨w.heap.size, 0, none⟩ v1).setCell ⟨w.heap.size + 1, 0, none⟩ v2).setCell ⟨w.heap.size + 1 + 1, 0, none⟩ v3) := by
 have k1 : Kept [w.heap.size] W (W.setCell ⟨w.heap.size, 0, none⟩ v1) := Kept.setCell (by simp) _
 have k2 : Kept [w.heap.size + 1] (W.setCell ⟨w.heap.size, 0, none⟩ v1) ((W.setCell ⟨w.heap.size, 0, none⟩ v1).setCell ⟨w.heap.size + 1, 0, none⟩ v2) := Kept.setCell (by simp) _
 have k3 : Kept [w.heap.size + 1 + 1] ((W.setCell ⟨w.heap.size, 0, none⟩ v1).setCell ⟨w.heap.size + 1, 0, none⟩ v2) (((W.setCell ⟨w.heap.size, 0, none⟩ v1).setCell ⟨w.heap.size + 1, 0, none⟩ v2).setCell ⟨w.heap.size + 1 + 1, 0, none⟩ v3) := Kept.setCell (by simp) _
 have a1 := heap_set h.r1 0 v1
 have a2 := (k1.block _ (World.lt_of_heap h.r2) (by simp)).trans h.r2
 have a3 := (k1.block _ (World.lt_of_heap h.r3) (by simp; omega)).trans h.r3
 have b1 := (k2.block _ (World.lt_of_heap a1) (by simp)).trans a1
 have b2 := heap_set a2 0 v2
 have b3 := (k2.block _ (World.lt_of_heap a3) (by simp)).trans a3
 have d1 := (k3.block _ (World.lt_of_heap b1) (by simp; omega)).trans b1
 have d2 := (k3.block _ (World.lt_of_heap b2) (by simp)).trans b2
 have d3 := heap_set b3 0 v3
 refine ⟨by rw [blk_cell d1]; rfl, by rw [blk_cell d2]; rfl, by rw [blk_cell d3]; rfl, ((k1.mono (by simp)).trans (k2.mono (fun i hi => .inl (by simp at hi; simp [hi])))).trans (k3.mono (fun i hi => .inl (by simp at hi; simp [hi])))⟩
theorem OpAt.out {w W : World} {a : Nat} {fp : List Nat} {d : Dev} (h : OpAt w W a fp d) {first many fin n : Int} (hb : openBad d first many fin = n) (h0 : n ≠ 0) :
  OpenPost w a d first many fin (.returned (.tuple #[.pointer none, .slice none 0 0, .int .i64 n])) (((W.setCell ⟨w.heap.size, 0, none⟩ (.pointer none)).setCell ⟨w.heap.size + 1, 0, none⟩ (.slice none 0 0)).setCell ⟨w.heap.size + 1 + 1, 0, none⟩ (.int .i64 n)) :=
 ⟨h.kept.trans' (h.set3 _ _ _).2.2.2 (by simp; omega), .inl ⟨by rw [hb]; exact h0, by rw [hb]⟩⟩
/-- A slice of a row of bytes. -/
theorem SlAt.sliced {w : World} {A : Option Addr} {n c : Nat} {xs : List UInt8} (h : SlAt w A n c (u8vs xs)) {i j : Nat} (hij : i ≤ j) (hj : j ≤ n) : SlAt w (if c = i then A else A.map (·.add i)) (j - i) (c - i) (u8vs ((xs.take j).drop i)) := by
 have hl : xs.length = n := by simpa [u8vs] using h.len
 have hnc := h.le
 by_cases hc : j - i = 0
 ·exact ⟨by simp [u8vs, hl]; omega, by omega, by have := h.max; omega, fun hn => by omega⟩
 ·obtain ⟨b, o, rfl, _, _⟩ := h.cells (by omega)
  rw [if_neg (by omega)]
  show SlAt w (some ((⟨b, o, none⟩ : Addr).add i)) (j - i) (c - i) (u8vs ((xs.take j).drop i))
  rw [add_block]
  exact h.cut hij hj
theorem SlAt.low {w : World} {A : Option Addr} {n c : Nat} {xs : List UInt8} (h : SlAt w A n c (u8vs xs)) {j : Nat} (hj : j ≤ n) : SlAt w A j c (u8vs (xs.take j)) := by
 have hl : xs.length = n := by simpa [u8vs] using h.len
 refine ⟨by simp [u8vs, hl]; omega, Nat.le_trans hj h.le, h.max, fun hn => ?_⟩
 obtain ⟨b, o, rfl, hb, hc⟩ := h.cells (by omega)
 refine ⟨b, o, rfl, hb, fun i hi => ?_⟩
 rw [hc i (by omega)]
 simp only [u8vs, List.getElem?_map, List.getElem?_take]
 rw [if_pos hi]
theorem bytes_step {d : Dev} (h : d.Wf) {f k : Nat} {b : Blk} (hb : d.secs[f + k]? = some b) : (d.bytesAt f).take (128 * (k + 1)) = (d.bytesAt f).take (128 * k) ++ b := by
 unfold Dev.bytesAt
 have hk : k < (d.secs.drop f).length := by have := (List.getElem?_eq_some_iff.1 hb).1; rw [List.length_drop]; omega
 have hdk : (d.secs.drop f)[k]? = some b := by rw [List.getElem?_drop]; exact hb
 have hall : ∀ x ∈ d.secs.drop f, x.length = 128 := fun x hx => h.size x (List.mem_of_mem_drop hx)
 have hbl : b.length = 128 := hall b (List.mem_of_getElem? hdk)
 have e : d.secs.drop f = (d.secs.drop f).take k ++ b :: (d.secs.drop f).drop (k + 1) := by
  obtain ⟨hk', rfl⟩ := List.getElem?_eq_some_iff.1 hdk
  rw [← List.drop_eq_getElem_cons hk', List.take_append_drop]
 have ht : ((d.secs.drop f).take k).flatten.length = 128 * k := by
  rw [flatten_len _ (fun x hx => hall x (List.mem_of_mem_take hx)), List.length_take, Nat.min_eq_left (by omega)]
 have e2 : (d.secs.drop f).flatten = ((d.secs.drop f).take k).flatten ++ (b ++ ((d.secs.drop f).drop (k + 1)).flatten) := by
  rw [e, List.flatten_append, List.flatten_cons, ← e]
 have e3 : ((d.secs.drop f).take k).flatten ++ (b ++ ((d.secs.drop f).drop (k + 1)).flatten) = (((d.secs.drop f).take k).flatten ++ b) ++ ((d.secs.drop f).drop (k + 1)).flatten := by rw [List.append_assoc]
 have h1 : (d.secs.drop f).flatten.take (128 * k) = ((d.secs.drop f).take k).flatten := by rw [e2, ← ht, List.take_left]
 rw [h1, e2, e3, List.take_left' (by rw [List.length_append, ht, hbl]; omega)]
/-- The sectors' bytes, read so far. -/
def OpL (w W : World) (a : Nat) (fp : List Nat) (d : Dev) (f m : Nat) (v i : Value) (wr : World) : Prop :=
 ∃ (k : Nat) (A : Option Addr) (c : Nat), k ≤ m ∧ i = .int .i64 k ∧ v = .slice A (128 * k) c ∧ wr.ownsRow W.heap.size 5 1 (.slice A (128 * k) c) (128 * k) (u8vs ((d.bytesAt f).take (128 * k))) ∧ OpAt w wr a fp d ∧ Kept [] W wr
def CutX.part (x : CutX) : Part := ⟨x.A, x.n, x.c, x.xs⟩
theorem info_bytes : (Tryz.prog.info? 45).map (fun i => (i.zero, i.size, i.bytes)) = some (some (.slice none 0 0), 1, 24) := by kernel_rfl
theorem own_sl {w : World} {base : Nat} {t : TypeId} {n : Nat} {xs : List Value} {A : Option Addr} {c : Nat} (h : w.ownsRow base t 1 (.slice A n c) n xs) : SlAt w A n c xs ∧ ∀ p, A = some p → base ≤ p.block ∧ p.block < w.heap.size := by
 obtain ⟨A2, c2, e, h1, h2⟩ := SlAt.of_own h
 cases e
 exact ⟨h1, fun p hp => ⟨(h2 p hp).2, (h.lt p.block (by rw [hp]; rfl)).2⟩⟩
theorem OpAt.keep {w W W' : World} {a : Nat} {fp : List Nat} {d : Dev} {F : List Nat} (h : OpAt w W a fp d) (hlt : ∀ j ∈ fp, j < w.heap.size) (hk : Kept F W W') (hF : ∀ j ∈ F, w.heap.size + 3 ≤ j) : OpAt w W' a fp d :=
 ⟨h.dv.kept hk (fun j hj hm => by have h1 := hlt j hj; have h2 := hF j hm; omega), (hk.block _ (World.lt_of_heap h.r1) (fun hm => by have := hF _ hm; omega)).trans h.r1, (hk.block _ (World.lt_of_heap h.r2) (fun hm => by have := hF _ hm; omega)).trans h.r2,
  (hk.block _ (World.lt_of_heap h.r3) (fun hm => by have := hF _ hm; omega)).trans h.r3, h.kept.trans' hk (fun j hm => .inr (by have := hF j hm; omega))⟩
/-- The results of an Open, stored. -/
structure OpRt (w W : World) (a : Nat) (fp : List Nat) (d : Dev) (v1 v2 v3 : Value) : Prop where
 dv : Dv W a fp d
 r1 : W.heap[w.heap.size]? = some (.cells #[v1] 31 (0, 0))
 r2 : W.heap[w.heap.size + 1]? = some (.cells #[v2] 37 (0, 0))
 r3 : W.heap[w.heap.size + 1 + 1]? = some (.cells #[v3] 23 (0, 0))
 kept : Kept [] w W
theorem OpRt.keep {w W W' : World} {a : Nat} {fp : List Nat} {d : Dev} {v1 v2 v3 : Value} {F : List Nat} (h : OpRt w W a fp d v1 v2 v3) (hlt : ∀ j ∈ fp, j < w.heap.size) (hk : Kept F W W') (hF : ∀ j ∈ F, w.heap.size + 3 ≤ j) : OpRt w W' a fp d v1 v2 v3 :=
 ⟨h.dv.kept hk (fun j hj hm => by have h1 := hlt j hj; have h2 := hF j hm; omega), (hk.block _ (World.lt_of_heap h.r1) (fun hm => by have := hF _ hm; omega)).trans h.r1, (hk.block _ (World.lt_of_heap h.r2) (fun hm => by have := hF _ hm; omega)).trans h.r2,
  (hk.block _ (World.lt_of_heap h.r3) (fun hm => by have := hF _ hm; omega)).trans h.r3, h.kept.trans' hk (fun j hm => .inr (by have := hF j hm; omega))⟩
theorem OpAt.put3 {w W : World} {a : Nat} {fp : List Nat} {d : Dev} (h : OpAt w W a fp d) (hlt : ∀ j ∈ fp, j < w.heap.size) (v1 v2 v3 : Value) :
  OpRt w (((W.setCell ⟨w.heap.size, 0, none⟩ v1).setCell ⟨w.heap.size + 1, 0, none⟩ v2).setCell ⟨w.heap.size + 1 + 1, 0, none⟩ v3) a fp d v1 v2 v3 := by
 have k1 : Kept [w.heap.size] W (W.setCell ⟨w.heap.size, 0, none⟩ v1) := Kept.setCell (by simp) _
 have k2 : Kept [w.heap.size + 1] (W.setCell ⟨w.heap.size, 0, none⟩ v1) ((W.setCell ⟨w.heap.size, 0, none⟩ v1).setCell ⟨w.heap.size + 1, 0, none⟩ v2) := Kept.setCell (by simp) _
 have k3 : Kept [w.heap.size + 1 + 1] ((W.setCell ⟨w.heap.size, 0, none⟩ v1).setCell ⟨w.heap.size + 1, 0, none⟩ v2) (((W.setCell ⟨w.heap.size, 0, none⟩ v1).setCell ⟨w.heap.size + 1, 0, none⟩ v2).setCell ⟨w.heap.size + 1 + 1, 0, none⟩ v3) := Kept.setCell (by simp) _
 have a1 := heap_set h.r1 0 v1
 have a2 := (k1.block _ (World.lt_of_heap h.r2) (by simp)).trans h.r2
 have a3 := (k1.block _ (World.lt_of_heap h.r3) (by simp; omega)).trans h.r3
 have b1 := (k2.block _ (World.lt_of_heap a1) (by simp)).trans a1
 have b2 := heap_set a2 0 v2
 have b3 := (k2.block _ (World.lt_of_heap a3) (by simp)).trans a3
 have d1 := (k3.block _ (World.lt_of_heap b1) (by simp; omega)).trans b1
 have d2 := (k3.block _ (World.lt_of_heap b2) (by simp)).trans b2
 have d3 := heap_set b3 0 v3
 have hk := ((k1.mono (G := [w.heap.size, w.heap.size + 1, w.heap.size + 1 + 1]) (by simp)).trans (k2.mono (fun i hi => .inl (by simp at hi; simp [hi])))).trans (k3.mono (fun i hi => .inl (by simp at hi; simp [hi])))
 refine ⟨h.dv.kept hk (fun j hj hm => ?_), d1, d2, d3, h.kept.trans' hk (by simp; omega)⟩
 have := hlt j hj
 simp only [List.mem_cons, List.not_mem_nil, or_false] at hm
 omega
/-- The state of an Open's rounds: the list's box Lb. -/
structure OpR (w W8 : World) (a : Nat) (fp : List Nat) (d : Dev) (Lb : Nat) (A0 : Option Addr) (n0 c0 : Nat) (all : List UInt8) (pre : List CutX) (A : Option Addr) (c : Nat) (X : World) : Prop where
 op : OpAt w X a fp d
 bx : X.heap[Lb]? = some (.cells #[.slice A pre.length c] 37 (0, 0))
 row : X.ownsRow (W8.heap.size + 2) 45 1 (.slice A pre.length c) pre.length ((pre.map CutX.part).map Part.val)
 ok : ∀ x ∈ pre, x.ok = true
 at_ : ∀ x ∈ pre, x.part.At X ∧ x.n ≤ 16384 ∧ ∀ p, x.A = some p → W8.heap.size + 2 ≤ p.block ∧ p.block < X.heap.size ∧ (Value.slice A pre.length c).ownBlock ≠ some p.block
 sl : SlAt X A0 n0 c0 (u8vs all)
def OpI (w W8 : World) (a : Nat) (fp : List Nat) (d : Dev) (Lb : Nat) (A0 : Option Addr) (n0 c0 : Nat) (all : List UInt8) (pre : List CutX) (X : World) : Prop := ∃ A c, OpR w W8 a fp d Lb A0 n0 c0 all pre A c X
/-- What is known of the blocks: the list's box, cut's box, the bytes' row. -/
structure OpCtx (w W8 : World) (fp : List Nat) (Lb Bb : Nat) (A0 : Option Addr) : Prop where
 fp : ∀ j ∈ fp, j < w.heap.size
 lb : w.heap.size + 3 ≤ Lb ∧ Lb < W8.heap.size
 bb : w.heap.size + 3 ≤ Bb ∧ Bb < W8.heap.size
 ne : Lb ≠ Bb
 a0 : ∀ p, A0 = some p → w.heap.size + 3 ≤ p.block ∧ p.block < W8.heap.size ∧ p.block ≠ Bb ∧ p.block ≠ Lb
theorem OpR.keep {w W8 : World} {a : Nat} {fp : List Nat} {d : Dev} {Lb Bb : Nat} {A0 : Option Addr} {n0 c0 : Nat} {all : List UInt8} {pre : List CutX} {A : Option Addr} {c : Nat} {X Y : World} {F : List Nat} (hc : OpCtx w W8 fp Lb Bb A0) (h : OpR w W8 a fp d Lb A0 n0 c0 all pre A c X)
  (hk : Kept F X Y) (hF : ∀ j ∈ F, j = W8.heap.size ∨ j = W8.heap.size + 1 ∨ j = Bb) : OpR w W8 a fp d Lb A0 n0 c0 all pre A c Y := by
 have h1 := hc.lb; have h2 := hc.bb; have h3 := hc.ne
 refine ⟨h.op.keep hc.fp hk (fun j hj => by have := hF j hj; omega), (hk.block _ (World.lt_of_heap h.bx) (fun hm => by have := hF _ hm; omega)).trans h.bx, row_kept h.row hk (fun j hj hm => ?_), h.ok, fun x hx => ⟨(h.at_ x hx).1.kept hk (fun p e hm => ?_), (h.at_ x hx).2.1, fun p e => ?_⟩, h.sl.kept hk (fun p e hm => ?_)⟩
 ·have h4 := (h.row.lt j hj).1
  have := hF _ hm; omega
 ·have h4 := (h.at_ x hx).2.2 p e
  have := hF _ hm; omega
 ·have h4 := (h.at_ x hx).2.2 p e
  exact ⟨h4.1, Nat.lt_of_lt_of_le h4.2.1 hk.size, h4.2.2⟩
 ·have h4 := hc.a0 p e
  have := hF _ hm; omega
/-- How an Open's rounds are left. -/
def OpX (w : World) (a : Nat) (fp : List Nat) (d : Dev) (c : Code) (pre : List CutX) (X : World) : Prop :=
 c = .ret ∧ (∃ p x, pre = p ++ [x] ∧ x.ok = false) ∧ OpRt w X a fp d (.pointer none) (.slice none 0 0) (.int .i64 110)
theorem cutG_keep {b : List UInt8} {pre : List CutX} {X0 X Y : World} {x : CutX} {D : Nat} (h1 : D + 2 ≤ X0.heap.size) (h : CutGs b pre X0 x X) (hk : Kept [D, D + 1] X Y) : CutGs b pre X0 x Y :=
 ⟨h.1, fun ok => by
  obtain ⟨s, hb, hn, hc⟩ := h.2 ok
  exact ⟨s.kept hk (fun p e hm => by have := hb p e; simp at hm; omega), fun p e => ⟨(hb p e).1, Nat.lt_of_lt_of_le (hb p e).2 hk.size⟩, hn, hc⟩⟩
theorem OpR.more {w W8 : World} {a : Nat} {fp : List Nat} {d : Dev} {Lb Bb : Nat} {A0 : Option Addr} {n0 c0 : Nat} {all : List UInt8} {pre : List CutX} {A : Option Addr} {c : Nat} {X X1 X2 : World} {x : CutX} (hc : OpCtx w W8 fp Lb Bb A0) (h : OpR w W8 a fp d Lb A0 n0 c0 all pre A c X)
  (hok : x.ok = true) (hx : x.part.At X) (hxn : x.n ≤ 16384) (hxb : ∀ p, x.A = some p → W8.heap.size + 2 ≤ p.block ∧ p.block < X.heap.size ∧ (Value.slice A pre.length c).ownBlock ≠ some p.block)
  (hk1 : Kept [] X X1) (hg : X1.grownBy X2 (Value.slice A pre.length c).ownBlock) {A' : Option Addr} {c' : Nat}
  (hown : X2.ownsRow (W8.heap.size + 2) 45 1 (.slice A' (pre.length + 1) c') (pre.length + 1) (((pre.map CutX.part).map Part.val) ++ [.slice x.A x.n x.c]))
  (hA' : ∀ g, (Value.slice A' (pre.length + 1) c').ownBlock = some g → X1.heap.size ≤ g ∨ (Value.slice A pre.length c).ownBlock = some g) :
  OpR w W8 a fp d Lb A0 n0 c0 all (pre ++ [x]) A' c' (X2.setCell ⟨Lb, 0, none⟩ (.slice A' (pre.length + 1) c')) ∧ Kept (Lb :: (Value.slice A pre.length c).ownBlock.toList) X (X2.setCell ⟨Lb, 0, none⟩ (.slice A' (pre.length + 1) c')) := by
 have h1 := hc.lb; have h2 := hc.bb; have h3 := hc.ne
 have hk2 : Kept (Value.slice A pre.length c).ownBlock.toList X X2 := (hk1.mono (by simp)).trans (Kept.grown (F := (Value.slice A pre.length c).ownBlock.toList) hg (fun i e => by rw [e]; simp))
 have hk3 : Kept [Lb] X2 (X2.setCell ⟨Lb, 0, none⟩ (.slice A' (pre.length + 1) c')) := Kept.setCell (by simp) _
 have hkF : Kept (Lb :: (Value.slice A pre.length c).ownBlock.toList) X (X2.setCell ⟨Lb, 0, none⟩ (.slice A' (pre.length + 1) c')) := (hk2.mono (fun i hi => .inl (by simp [hi]))).trans (hk3.mono (fun i hi => .inl (by simp at hi; simp [hi])))
 have hob : ∀ j ∈ (Value.slice A pre.length c).ownBlock.toList, W8.heap.size + 2 ≤ j := fun j hj => (h.row.lt j (by simpa using hj)).1
 have hb2 := (hk2.block Lb (World.lt_of_heap h.bx) (fun hm => by have := hob _ hm; omega)).trans h.bx
 have hlen : (pre ++ [x]).length = pre.length + 1 := by simp
 refine ⟨⟨h.op.keep hc.fp hkF (fun j hj => ?_), ?_, ?_, fun y hy => ?_, fun y hy => ?_, h.sl.kept hkF (fun p e hm => ?_)⟩, hkF⟩
 ·simp only [List.mem_cons] at hj
  rcases hj with rfl | hj
  ·omega
  ·have := hob _ hj; omega
 ·rw [hlen]; exact heap_set hb2 0 _
 ·rw [hlen, List.map_append, List.map_append]
  exact row_kept hown hk3 (fun j hj hm => by have h4 := (hown.lt j hj).1; simp at hm; omega)
 ·simp only [List.mem_append, List.mem_cons, List.not_mem_nil, or_false] at hy
  rcases hy with hy | rfl
  ·exact h.ok y hy
  ·exact hok
 ·have hy2 : y.part.At X ∧ y.n ≤ 16384 ∧ ∀ p, y.A = some p → W8.heap.size + 2 ≤ p.block ∧ p.block < X.heap.size ∧ (Value.slice A pre.length c).ownBlock ≠ some p.block := by
   simp only [List.mem_append, List.mem_cons, List.not_mem_nil, or_false] at hy
   rcases hy with hy | rfl
   ·exact h.at_ y hy
   ·exact ⟨hx, hxn, hxb⟩
  refine ⟨hy2.1.kept hkF (fun p e hm => ?_), hy2.2.1, fun p e => ?_⟩
  ·have h5 := hy2.2.2 p e
   simp only [List.mem_cons, Option.mem_toList] at hm
   rcases hm with hm | hm
   ·omega
   ·exact h5.2.2 hm
  ·have h5 := hy2.2.2 p e
   refine ⟨h5.1, Nat.lt_of_lt_of_le h5.2.1 hkF.size, fun he => ?_⟩
   rw [hlen] at he
   rcases hA' _ he with h6 | h6
   ·have := hk1.size; omega
   ·exact h5.2.2 h6
 ·have h4 := hc.a0 p e
  simp only [List.mem_cons] at hm
  rcases hm with hm | hm
  ·omega
  ·have := hob _ hm; omega
theorem texts_parts (pre : List CutX) : texts (pre.map CutX.part) = pre.map CutX.xs := by simp [texts, CutX.part]
theorem OpR.done {w W8 : World} {a : Nat} {fp : List Nat} {d : Dev} {Lb Bb : Nat} {A0 : Option Addr} {n0 c0 : Nat} {all : List UInt8} {pre : List CutX} {A : Option Addr} {c : Nat} {X X1 Y : World} {f m e : Nat} {last : List UInt8} {AN : Option Addr} {ln cN : Nat} (hc : OpCtx w W8 fp Lb Bb A0)
  (h : OpR w W8 a fp d Lb A0 n0 c0 all pre A c X) (hD : W8.heap.size < X.heap.size) (hob : openBad d f m e = 0) (hall : (d.bytesAt f).take e = recs (pre.map CutX.xs)) (hsm : Small (pre.map CutX.xs)) (hk1 : Kept [] X X1) (hlast : last = ((d.bytesAt f).take e).drop (e - e % 128)) (hln : last.length = ln)
  (hAN : SlAt X1 AN ln cN (u8vs last)) (hN0 : AN = none → cN = 0) (hNb : ∀ p, AN = some p → X.heap.size ≤ p.block ∧ p.block < X1.heap.size)
  (hk2 : Kept [w.heap.size, w.heap.size + 1, w.heap.size + 1 + 1, W8.heap.size] X1 Y) {z : Nat} (hzX : X1.heap.size ≤ z)
  (hz : Y.heap[z]? = some (.cells #[.pointer (some ⟨a, 0, none⟩), .int .i64 f, .int .i64 m, .int .i64 e, .slice AN ln cN] 76 (0, 0))) :
  OpenPost w a d f m e (.returned (.tuple #[.pointer (some ⟨z, 0, none⟩), .slice A pre.length c, .int .i64 0])) Y := by
 have h1 := hc.lb; have h2 := hc.bb
 have hkX : Kept [w.heap.size, w.heap.size + 1, w.heap.size + 1 + 1, W8.heap.size] X Y := (hk1.mono (by simp)).trans hk2
 have hzY := World.lt_of_heap hz
 have hF : ∀ j ∈ [w.heap.size, w.heap.size + 1, w.heap.size + 1 + 1, W8.heap.size], j = w.heap.size ∨ j = w.heap.size + 1 ∨ j = w.heap.size + 2 ∨ j = W8.heap.size := fun j hj => by simpa using hj
 have hNX := hk1.size
 have hown := own_sl h.row
 refine ⟨(h.op.kept.trans' hk1 (by simp)).trans' hk2 (fun j hj => .inr (by have := hF j hj; omega)), .inr (.inr ⟨hob, z, z :: (AN.map (·.block)).toList, A, pre.length, c, pre.map CutX.part, rfl, ⟨by simp, hown.1.le, hown.1.max, fun p hp => ?_, fun hn => ?_⟩, ?_, ?_, ?_, fun j hj => ?_, fun p e => ?_, fun q hq p e => ?_⟩)⟩
 ·obtain ⟨x, hx, rfl⟩ := List.mem_map.1 hp
  exact (h.at_ x hx).1.kept hkX (fun p e hm => by have := (h.at_ x hx).2.2 p e; have := hF _ hm; omega)
 ·obtain ⟨b, o, rfl, hb, hcell⟩ := hown.1.cells hn
  have hbl := hown.2 _ rfl
  refine ⟨b, o, rfl, Nat.lt_of_lt_of_le hb hkX.size, fun i p hi => ?_⟩
  have hil := (List.getElem?_eq_some_iff.1 hi).1
  rw [List.length_map] at hil
  refine (hkX.cell (p := ⟨b, o + i, none⟩) hb (fun hm => by have := hF _ hm; simp only at hbl this; omega)).trans ?_
  rw [hcell i hil, List.getElem?_map, hi]
  rfl
 ·rw [texts_parts]; exact hsm
 ·rw [texts_parts, Int.toNat_natCast, Int.toNat_natCast]; exact hall
 ·simp only [Int.toNat_natCast]
  rw [← hlast]
  refine ⟨⟨AN, cN, by rw [hln]; exact hz, by rw [hln]; exact hAN.kept hk2 (fun p e hm => by have := hNb p e; have := hF _ hm; omega), hN0, fun p e => ?_⟩, by simp, fun j hj => ?_⟩
  ·subst e
   exact ⟨by simp, fun e2 => by have := hNb p rfl; omega⟩
  ·simp only [List.mem_cons, Option.mem_toList, Option.map_eq_some_iff] at hj
   rcases hj with rfl | ⟨p, e, rfl⟩
   ·exact hzY
   ·exact Nat.lt_of_lt_of_le (hNb p e).2 hk2.size
 ·simp only [List.mem_cons, Option.mem_toList, Option.map_eq_some_iff] at hj
  rcases hj with rfl | ⟨p, e, rfl⟩
  ·omega
  ·have := hNb p e; omega
 ·have h5 := hown.2 p e
  refine ⟨by omega, fun hm => ?_⟩
  simp only [List.mem_cons, Option.mem_toList, Option.map_eq_some_iff] at hm
  rcases hm with hm | ⟨p2, e2, hm⟩
  ·omega
  ·have := hNb p2 e2; omega
 ·obtain ⟨x, hx, rfl⟩ := List.mem_map.1 hq
  have h5 := (h.at_ x hx).2.2 p e
  refine ⟨by omega, fun hm => ?_⟩
  simp only [List.mem_cons, Option.mem_toList, Option.map_eq_some_iff] at hm
  rcases hm with hm | ⟨p2, e2, hm⟩
  ·omega
  ·have := hNb p2 e2; omega
end Go.Proofs.YtbnflbkaogpnbaaGreat
