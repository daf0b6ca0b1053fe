/- Texts in one: V7a V7b V7. -/
import Derived.Test.YtbnflbkaogpnbaaVB
import Derived.Test.YtbnflbkaogpnbaaUA
import Derived.Sort.CutIn
import Derived.Deep.AppendLies
/- strip.Open: what it does, its frame. -/
namespace Go.Proofs.Ytbnflbkaogpnbaa
open Go.RowKit Go.Shelf

/-- A goal at which a walk stops. -/
def Hold (p : Prop) : Prop := p
theorem Hold.of {p : Prop} (h : Hold p) : p := h

/-- What stands in the way of an Open. -/
def openBad (d : Dev) (first many fin : Int) : Int :=
  if d.at_ 0 ≠ 0 then d.at_ 0
  else if first < 0 ∨ (d.secs.length : Int) < first ∨ many < 1 ∨ (d.secs.length : Int) - first < many then 9
  else if fin < 0 ∨ 128 * many < fin then 2 else 0

/-- What an Open does. -/
def OpenPost (w : World) (a : Nat) (d : Dev) (first many fin : Int) (e : Ending) (w' : World) : Prop :=
  Kept [] w w' ∧
  ((openBad d first many fin ≠ 0 ∧ e = .returned (.tuple #[.pointer none, .slice none 0 0, .int .i64 (openBad d first many fin)])) ∨
   (openBad d first many fin = 0 ∧ NoRecs ((d.bytesAt first.toNat).take fin.toNat) ∧ e = .returned (.tuple #[.pointer none, .slice none 0 0, .int .i64 110])) ∨
   (openBad d first many fin = 0 ∧ ∃ (z : Nat) (sp : List Nat) (A : Option Addr) (n c : Nat) (l : List Part), e = .returned (.tuple #[.pointer (some ⟨z, 0, none⟩), .slice A n c, .int .i64 0]) ∧ BytessAt w' A n c l ∧ Small (texts l) ∧ (d.bytesAt first.toNat).take fin.toNat = recs (texts l) ∧
     StAt w' z a sp ⟨first.toNat, many.toNat, fin.toNat, ((d.bytesAt first.toNat).take fin.toNat).drop (fin.toNat - fin.toNat % 128)⟩ ∧ (∀ j ∈ sp, w.heap.size ≤ j) ∧
     (∀ p, A = some p → w.heap.size ≤ p.block ∧ p.block ∉ sp) ∧ ∀ q ∈ l, ∀ p, q.A = some p → w.heap.size ≤ p.block ∧ p.block ∉ sp))

theorem results_cells3 {P : Program} {fn : Func} {p1 p2 p3 : Tmp} {t1 t2 t3 : TypeId} (h : fn.results = #[.cell p1 t1, .cell p2 t2, .cell p3 t3]) (tmps : Array Value) (w : World) (b1 b2 b3 : Nat) (v1 v2 v3 : Value)
    (e1 : tmps.getD p1 undef = .pointer (some ⟨b1, 0, none⟩)) (e2 : tmps.getD p2 undef = .pointer (some ⟨b2, 0, none⟩)) (e3 : tmps.getD p3 undef = .pointer (some ⟨b3, 0, none⟩))
    (c1 : w.cell? ⟨b1, 0, none⟩ = some v1) (c2 : w.cell? ⟨b2, 0, none⟩ = some v2) (c3 : w.cell? ⟨b3, 0, none⟩ = some v3)
    (g1 : ∀ w, (isAgg t1).run P w = .ok false w) (g2 : ∀ w, (isAgg t2).run P w = .ok false w) (g3 : ∀ w, (isAgg t3).run P w = .ok false w) : (results fn tmps).run P w = .ok (.tuple #[v1, v2, v3]) w := by
  have e1' : tmps[p1]?.getD undef = .pointer (some ⟨b1, 0, none⟩) := by simpa using e1
  have e2' : tmps[p2]?.getD undef = .pointer (some ⟨b2, 0, none⟩) := by simpa using e2
  have e3' : tmps[p3]?.getD undef = .pointer (some ⟨b3, 0, none⟩) := by simpa using e3
  simp [results, h, e1', e2', e3', asAddr, loadVar, Sem.run_bind, g1, g2, g3, Result.andThen, c1, c2, c3]

theorem agg_strip (w : World) : (isAgg 65).run Try.prog w = .ok false w := by simp [isAgg, Sem.run_bind, run_underlying Try.underlying65, Result.andThen]
theorem agg_bytess (w : World) : (isAgg 64).run Try.prog w = .ok false w := by simp [isAgg, Sem.run_bind, run_underlying Try.underlying64, Result.andThen]
theorem agg_errno (w : World) : (isAgg 25).run Try.prog w = .ok false w := by simp [isAgg, Sem.run_bind, run_underlying Try.underlying25, Result.andThen]

/-- The frame of an Open: its device, its three results. -/
structure OpAt (w W : World) (a : Nat) (fp : List Nat) (d : Dev) : Prop where
  dv : Dv W a fp d
  r1 : W.heap[w.heap.size]? = some (.cells #[.pointer none] 65 (0, 0))
  r2 : W.heap[w.heap.size + 1]? = some (.cells #[.slice none 0 0] 64 (0, 0))
  r3 : W.heap[w.heap.size + 1 + 1]? = some (.cells #[.int .i64 0] 25 (0, 0))
  kept : Kept [] w W

theorem OpAt.next {w W W' : World} {a : Nat} {fp : List Nat} {d : Dev} (h : OpAt w W a fp d) (hk : Kept [] W W') : OpAt w W' a fp d :=
  ⟨h.dv.new_kept hk, (hk.block _ (World.lt_of_heap h.r1) (by simp)).trans h.r1, (hk.block _ (World.lt_of_heap h.r2) (by simp)).trans h.r2, (hk.block _ (World.lt_of_heap h.r3) (by simp)).trans h.r3, h.kept.trans hk⟩

theorem OpAt.cells {w W : World} {a : Nat} {fp : List Nat} {d : Dev} (h : OpAt w W a fp d) : W.cell? ⟨w.heap.size, 0, none⟩ = some (.pointer none) ∧ W.cell? ⟨w.heap.size + 1, 0, none⟩ = some (.slice none 0 0) ∧ W.cell? ⟨w.heap.size + 1 + 1, 0, none⟩ = some (.int .i64 0) ∧
    W.frozen? ⟨w.heap.size, 0, none⟩ = false ∧ W.frozen? ⟨w.heap.size + 1, 0, none⟩ = false ∧ W.frozen? ⟨w.heap.size + 1 + 1, 0, none⟩ = false :=
  ⟨blk_cell h.r1 0, blk_cell h.r2 0, blk_cell h.r3 0, blk_frozen h.r1 0, blk_frozen h.r2 0, blk_frozen h.r3 0⟩

/-- The results, stored. -/
theorem OpAt.set3 {w W : World} {a : Nat} {fp : List Nat} {d : Dev} (h : OpAt w W a fp d) (v1 v2 v3 : Value) :
    (((W.setCell ⟨w.heap.size, 0, none⟩ v1).setCell ⟨w.heap.size + 1, 0, none⟩ v2).setCell ⟨w.heap.size + 1 + 1, 0, none⟩ v3).cell? ⟨w.heap.size, 0, none⟩ = some v1 ∧
    (((W.setCell ⟨w.heap.size, 0, none⟩ v1).setCell ⟨w.heap.size + 1, 0, none⟩ v2).setCell ⟨w.heap.size + 1 + 1, 0, none⟩ v3).cell? ⟨w.heap.size + 1, 0, none⟩ = some v2 ∧
    (((W.setCell ⟨w.heap.size, 0, none⟩ v1).setCell ⟨w.heap.size + 1, 0, none⟩ v2).setCell ⟨w.heap.size + 1 + 1, 0, none⟩ v3).cell? ⟨w.heap.size + 1 + 1, 0, none⟩ = some v3 ∧
    Kept [w.heap.size, w.heap.size + 1, w.heap.size + 1 + 1] W (((W.setCell ⟨w.heap.size, 0, none⟩ v1).setCell ⟨w.heap.size + 1, 0, none⟩ v2).setCell ⟨w.heap.size + 1 + 1, 0, none⟩ v3) := by
  have k1 : Kept [w.heap.size] W (W.setCell ⟨w.heap.size, 0, none⟩ v1) := Kept.setCell (by simp) _
  have k2 : Kept [w.heap.size + 1] (W.setCell ⟨w.heap.size, 0, none⟩ v1) ((W.setCell ⟨w.heap.size, 0, none⟩ v1).setCell ⟨w.heap.size + 1, 0, none⟩ v2) := Kept.setCell (by simp) _
  have k3 : Kept [w.heap.size + 1 + 1] ((W.setCell ⟨w.heap.size, 0, none⟩ v1).setCell ⟨w.heap.size + 1, 0, none⟩ v2) (((W.setCell ⟨w.heap.size, 0, none⟩ v1).setCell ⟨w.heap.size + 1, 0, none⟩ v2).setCell ⟨w.heap.size + 1 + 1, 0, none⟩ v3) := Kept.setCell (by simp) _
  have a1 := heap_set h.r1 0 v1
  have a2 := (k1.block _ (World.lt_of_heap h.r2) (by simp)).trans h.r2
  have a3 := (k1.block _ (World.lt_of_heap h.r3) (by simp; omega)).trans h.r3
  have b1 := (k2.block _ (World.lt_of_heap a1) (by simp)).trans a1
  have b2 := heap_set a2 0 v2
  have b3 := (k2.block _ (World.lt_of_heap a3) (by simp)).trans a3
  have d1 := (k3.block _ (World.lt_of_heap b1) (by simp; omega)).trans b1
  have d2 := (k3.block _ (World.lt_of_heap b2) (by simp)).trans b2
  have d3 := heap_set b3 0 v3
  refine ⟨by rw [blk_cell d1]; rfl, by rw [blk_cell d2]; rfl, by rw [blk_cell d3]; rfl, ((k1.mono (by simp)).trans (k2.mono (fun i hi => .inl (by simp at hi; simp [hi])))).trans (k3.mono (fun i hi => .inl (by simp at hi; simp [hi])))⟩

theorem OpAt.out {w W : World} {a : Nat} {fp : List Nat} {d : Dev} (h : OpAt w W a fp d) {first many fin n : Int} (hb : openBad d first many fin = n) (h0 : n ≠ 0) :
    OpenPost w a d first many fin (.returned (.tuple #[.pointer none, .slice none 0 0, .int .i64 n])) (((W.setCell ⟨w.heap.size, 0, none⟩ (.pointer none)).setCell ⟨w.heap.size + 1, 0, none⟩ (.slice none 0 0)).setCell ⟨w.heap.size + 1 + 1, 0, none⟩ (.int .i64 n)) :=
  ⟨h.kept.trans' (h.set3 _ _ _).2.2.2 (by simp; omega), .inl ⟨by rw [hb]; exact h0, by rw [hb]⟩⟩


/-- A slice of a row of bytes. -/
theorem SlAt.sliced {w : World} {A : Option Addr} {n c : Nat} {xs : List UInt8} (h : SlAt w A n c (u8vs xs)) {i j : Nat} (hij : i ≤ j) (hj : j ≤ n) : SlAt w (if c = i then A else A.map (·.add i)) (j - i) (c - i) (u8vs ((xs.take j).drop i)) := by
  have hl : xs.length = n := by simpa [u8vs] using h.len
  have hnc := h.le
  by_cases hc : j - i = 0
  · exact ⟨by simp [u8vs, hl]; omega, by omega, by have := h.max; omega, fun hn => by omega⟩
  · obtain ⟨b, o, rfl, _, _⟩ := h.cells (by omega)
    rw [if_neg (by omega)]
    show SlAt w (some ((⟨b, o, none⟩ : Addr).add i)) (j - i) (c - i) (u8vs ((xs.take j).drop i))
    rw [add_block]
    exact h.cut hij hj

theorem SlAt.low {w : World} {A : Option Addr} {n c : Nat} {xs : List UInt8} (h : SlAt w A n c (u8vs xs)) {j : Nat} (hj : j ≤ n) : SlAt w A j c (u8vs (xs.take j)) := by
  have hl : xs.length = n := by simpa [u8vs] using h.len
  refine ⟨by simp [u8vs, hl]; omega, Nat.le_trans hj h.le, h.max, fun hn => ?_⟩
  obtain ⟨b, o, rfl, hb, hc⟩ := h.cells (by omega)
  refine ⟨b, o, rfl, hb, fun i hi => ?_⟩
  rw [hc i (by omega)]
  simp only [u8vs, List.getElem?_map, List.getElem?_take]
  rw [if_pos hi]

theorem sliced_nil {A : Option Addr} {c i : Nat} (h : A = none → c = 0) (e : (if c = i then A else A.map (·.add i)) = none) : c - i = 0 := by
  split at e
  · omega
  · have := h (by cases A <;> simp_all)
    omega

theorem sliced_block {A : Option Addr} {c i : Nat} {p : Addr} (e : (if c = i then A else A.map (·.add i)) = some p) : ∃ q, A = some q ∧ p.block = q.block := by
  split at e
  · exact ⟨p, e, rfl⟩
  · obtain ⟨q, hq, rfl⟩ := Option.map_eq_some_iff.1 e
    exact ⟨q, hq, by unfold Addr.add; split <;> rfl⟩

theorem bytes_step {d : Dev} (h : d.Wf) {f k : Nat} {b : Blk} (hb : d.secs[f + k]? = some b) : (d.bytesAt f).take (128 * (k + 1)) = (d.bytesAt f).take (128 * k) ++ b := by
  unfold Dev.bytesAt
  have hk : k < (d.secs.drop f).length := by have := (List.getElem?_eq_some_iff.1 hb).1; rw [List.length_drop]; omega
  have hdk : (d.secs.drop f)[k]? = some b := by rw [List.getElem?_drop]; exact hb
  have hall : ∀ x ∈ d.secs.drop f, x.length = 128 := fun x hx => h.size x (List.mem_of_mem_drop hx)
  have hbl : b.length = 128 := hall b (List.mem_of_getElem? hdk)
  have e : d.secs.drop f = (d.secs.drop f).take k ++ b :: (d.secs.drop f).drop (k + 1) := by
    obtain ⟨hk', rfl⟩ := List.getElem?_eq_some_iff.1 hdk
    rw [← List.drop_eq_getElem_cons hk', List.take_append_drop]
  have ht : ((d.secs.drop f).take k).flatten.length = 128 * k := by
    rw [flatten_len _ (fun x hx => hall x (List.mem_of_mem_take hx)), List.length_take, Nat.min_eq_left (by omega)]
  have e2 : (d.secs.drop f).flatten = ((d.secs.drop f).take k).flatten ++ (b ++ ((d.secs.drop f).drop (k + 1)).flatten) := by
    rw [e, List.flatten_append, List.flatten_cons, ← e]
  have e3 : ((d.secs.drop f).take k).flatten ++ (b ++ ((d.secs.drop f).drop (k + 1)).flatten) = (((d.secs.drop f).take k).flatten ++ b) ++ ((d.secs.drop f).drop (k + 1)).flatten := by rw [List.append_assoc]
  have h1 : (d.secs.drop f).flatten.take (128 * k) = ((d.secs.drop f).take k).flatten := by rw [e2, ← ht, List.take_left]
  rw [h1, e2, e3, List.take_left' (by rw [List.length_append, ht, hbl]; omega)]

/-- The sectors' bytes, read so far. -/
def OpL (w W : World) (a : Nat) (fp : List Nat) (d : Dev) (f m : Nat) (v i : Value) (wr : World) : Prop :=
  ∃ (k : Nat) (A : Option Addr) (c : Nat), k ≤ m ∧ i = .int .i64 k ∧ v = .slice A (128 * k) c ∧ wr.ownsRow W.heap.size 5 1 (.slice A (128 * k) c) (128 * k) (u8vs ((d.bytesAt f).take (128 * k))) ∧ OpAt w wr a fp d ∧ Kept [] W wr

def CutX.part (x : CutX) : Part := ⟨x.A, x.n, x.c, x.xs⟩

theorem info_bytes : (Try.prog.info? 34).map (fun i => (i.zero, i.size, i.bytes)) = some (some (.slice none 0 0), 1, 24) := by kernel_rfl

theorem partv_one (l : List Part) : ∀ u ∈ l.map Part.val, u.oneCell' = true := fun u hu => by
  obtain ⟨c, _, rfl⟩ := List.mem_map.1 hu
  rfl

theorem own_sl {w : World} {base : Nat} {t : TypeId} {n : Nat} {xs : List Value} {A : Option Addr} {c : Nat} (h : w.ownsRow base t 1 (.slice A n c) n xs) : SlAt w A n c xs ∧ ∀ p, A = some p → base ≤ p.block ∧ p.block < w.heap.size := by
  obtain ⟨A2, c2, e, h1, h2⟩ := SlAt.of_own h
  cases e
  exact ⟨h1, fun p hp => ⟨(h2 p hp).2, (h.lt p.block (by rw [hp]; rfl)).2⟩⟩

theorem OpAt.keep {w W W' : World} {a : Nat} {fp : List Nat} {d : Dev} {F : List Nat} (h : OpAt w W a fp d) (hlt : ∀ j ∈ fp, j < w.heap.size) (hk : Kept F W W') (hF : ∀ j ∈ F, w.heap.size + 3 ≤ j) : OpAt w W' a fp d :=
  ⟨h.dv.kept hk (fun j hj hm => by have h1 := hlt j hj; have h2 := hF j hm; omega), (hk.block _ (World.lt_of_heap h.r1) (fun hm => by have := hF _ hm; omega)).trans h.r1, (hk.block _ (World.lt_of_heap h.r2) (fun hm => by have := hF _ hm; omega)).trans h.r2,
    (hk.block _ (World.lt_of_heap h.r3) (fun hm => by have := hF _ hm; omega)).trans h.r3, h.kept.trans' hk (fun j hm => .inr (by have := hF j hm; omega))⟩

/-- The results of an Open, stored. -/
structure OpRt (w W : World) (a : Nat) (fp : List Nat) (d : Dev) (v1 v2 v3 : Value) : Prop where
  dv : Dv W a fp d
  r1 : W.heap[w.heap.size]? = some (.cells #[v1] 65 (0, 0))
  r2 : W.heap[w.heap.size + 1]? = some (.cells #[v2] 64 (0, 0))
  r3 : W.heap[w.heap.size + 1 + 1]? = some (.cells #[v3] 25 (0, 0))
  kept : Kept [] w W

theorem OpRt.keep {w W W' : World} {a : Nat} {fp : List Nat} {d : Dev} {v1 v2 v3 : Value} {F : List Nat} (h : OpRt w W a fp d v1 v2 v3) (hlt : ∀ j ∈ fp, j < w.heap.size) (hk : Kept F W W') (hF : ∀ j ∈ F, w.heap.size + 3 ≤ j) : OpRt w W' a fp d v1 v2 v3 :=
  ⟨h.dv.kept hk (fun j hj hm => by have h1 := hlt j hj; have h2 := hF j hm; omega), (hk.block _ (World.lt_of_heap h.r1) (fun hm => by have := hF _ hm; omega)).trans h.r1, (hk.block _ (World.lt_of_heap h.r2) (fun hm => by have := hF _ hm; omega)).trans h.r2,
    (hk.block _ (World.lt_of_heap h.r3) (fun hm => by have := hF _ hm; omega)).trans h.r3, h.kept.trans' hk (fun j hm => .inr (by have := hF j hm; omega))⟩

theorem OpAt.put3 {w W : World} {a : Nat} {fp : List Nat} {d : Dev} (h : OpAt w W a fp d) (hlt : ∀ j ∈ fp, j < w.heap.size) (v1 v2 v3 : Value) :
    OpRt w (((W.setCell ⟨w.heap.size, 0, none⟩ v1).setCell ⟨w.heap.size + 1, 0, none⟩ v2).setCell ⟨w.heap.size + 1 + 1, 0, none⟩ v3) a fp d v1 v2 v3 := by
  have k1 : Kept [w.heap.size] W (W.setCell ⟨w.heap.size, 0, none⟩ v1) := Kept.setCell (by simp) _
  have k2 : Kept [w.heap.size + 1] (W.setCell ⟨w.heap.size, 0, none⟩ v1) ((W.setCell ⟨w.heap.size, 0, none⟩ v1).setCell ⟨w.heap.size + 1, 0, none⟩ v2) := Kept.setCell (by simp) _
  have k3 : Kept [w.heap.size + 1 + 1] ((W.setCell ⟨w.heap.size, 0, none⟩ v1).setCell ⟨w.heap.size + 1, 0, none⟩ v2) (((W.setCell ⟨w.heap.size, 0, none⟩ v1).setCell ⟨w.heap.size + 1, 0, none⟩ v2).setCell ⟨w.heap.size + 1 + 1, 0, none⟩ v3) := Kept.setCell (by simp) _
  have a1 := heap_set h.r1 0 v1
  have a2 := (k1.block _ (World.lt_of_heap h.r2) (by simp)).trans h.r2
  have a3 := (k1.block _ (World.lt_of_heap h.r3) (by simp; omega)).trans h.r3
  have b1 := (k2.block _ (World.lt_of_heap a1) (by simp)).trans a1
  have b2 := heap_set a2 0 v2
  have b3 := (k2.block _ (World.lt_of_heap a3) (by simp)).trans a3
  have d1 := (k3.block _ (World.lt_of_heap b1) (by simp; omega)).trans b1
  have d2 := (k3.block _ (World.lt_of_heap b2) (by simp)).trans b2
  have d3 := heap_set b3 0 v3
  have hk := ((k1.mono (G := [w.heap.size, w.heap.size + 1, w.heap.size + 1 + 1]) (by simp)).trans (k2.mono (fun i hi => .inl (by simp at hi; simp [hi])))).trans (k3.mono (fun i hi => .inl (by simp at hi; simp [hi])))
  refine ⟨h.dv.kept hk (fun j hj hm => ?_), d1, d2, d3, h.kept.trans' hk (by simp; omega)⟩
  have := hlt j hj
  simp only [List.mem_cons, List.not_mem_nil, or_false] at hm
  omega

/-- The state of an Open's rounds: the list's box Lb. -/
structure OpR (w W8 : World) (a : Nat) (fp : List Nat) (d : Dev) (Lb : Nat) (A0 : Option Addr) (n0 c0 : Nat) (all : List UInt8) (pre : List CutX) (A : Option Addr) (c : Nat) (X : World) : Prop where
  op : OpAt w X a fp d
  bx : X.heap[Lb]? = some (.cells #[.slice A pre.length c] 64 (0, 0))
  row : X.ownsRow (W8.heap.size + 2) 34 1 (.slice A pre.length c) pre.length ((pre.map CutX.part).map Part.val)
  ok : ∀ x ∈ pre, x.ok = true
  at_ : ∀ x ∈ pre, x.part.At X ∧ x.n ≤ 16384 ∧ ∀ p, x.A = some p → W8.heap.size + 2 ≤ p.block ∧ p.block < X.heap.size ∧ (Value.slice A pre.length c).ownBlock ≠ some p.block
  sl : SlAt X A0 n0 c0 (u8vs all)

def OpI (w W8 : World) (a : Nat) (fp : List Nat) (d : Dev) (Lb : Nat) (A0 : Option Addr) (n0 c0 : Nat) (all : List UInt8) (pre : List CutX) (X : World) : Prop := ∃ A c, OpR w W8 a fp d Lb A0 n0 c0 all pre A c X

/-- What is known of the blocks: the list's box, cut's box, the bytes' row. -/
structure OpCtx (w W8 : World) (fp : List Nat) (Lb Bb : Nat) (A0 : Option Addr) : Prop where
  fp : ∀ j ∈ fp, j < w.heap.size
  lb : w.heap.size + 3 ≤ Lb ∧ Lb < W8.heap.size
  bb : w.heap.size + 3 ≤ Bb ∧ Bb < W8.heap.size
  ne : Lb ≠ Bb
  a0 : ∀ p, A0 = some p → w.heap.size + 3 ≤ p.block ∧ p.block < W8.heap.size ∧ p.block ≠ Bb ∧ p.block ≠ Lb

theorem OpR.keep {w W8 : World} {a : Nat} {fp : List Nat} {d : Dev} {Lb Bb : Nat} {A0 : Option Addr} {n0 c0 : Nat} {all : List UInt8} {pre : List CutX} {A : Option Addr} {c : Nat} {X Y : World} {F : List Nat} (hc : OpCtx w W8 fp Lb Bb A0) (h : OpR w W8 a fp d Lb A0 n0 c0 all pre A c X)
    (hk : Kept F X Y) (hF : ∀ j ∈ F, j = W8.heap.size ∨ j = W8.heap.size + 1 ∨ j = Bb) : OpR w W8 a fp d Lb A0 n0 c0 all pre A c Y := by
  have h1 := hc.lb; have h2 := hc.bb; have h3 := hc.ne
  refine ⟨h.op.keep hc.fp hk (fun j hj => by have := hF j hj; omega), (hk.block _ (World.lt_of_heap h.bx) (fun hm => by have := hF _ hm; omega)).trans h.bx, row_kept h.row hk (fun j hj hm => ?_), h.ok, fun x hx => ⟨(h.at_ x hx).1.kept hk (fun p e hm => ?_), (h.at_ x hx).2.1, fun p e => ?_⟩, h.sl.kept hk (fun p e hm => ?_)⟩
  · have h4 := (h.row.lt j hj).1
    have := hF _ hm; omega
  · have h4 := (h.at_ x hx).2.2 p e
    have := hF _ hm; omega
  · have h4 := (h.at_ x hx).2.2 p e
    exact ⟨h4.1, Nat.lt_of_lt_of_le h4.2.1 hk.size, h4.2.2⟩
  · have h4 := hc.a0 p e
    have := hF _ hm; omega

/-- How an Open's rounds are left. -/
def OpX (w : World) (a : Nat) (fp : List Nat) (d : Dev) (c : Code) (pre : List CutX) (X : World) : Prop :=
  c = .ret ∧ (∃ p x, pre = p ++ [x] ∧ x.ok = false) ∧ OpRt w X a fp d (.pointer none) (.slice none 0 0) (.int .i64 110)

theorem cutG_keep {b : List UInt8} {pre : List CutX} {X0 X Y : World} {x : CutX} {D : Nat} (h1 : D + 2 ≤ X0.heap.size) (h : CutGs b pre X0 x X) (hk : Kept [D, D + 1] X Y) : CutGs b pre X0 x Y :=
  ⟨h.1, fun ok => by
    obtain ⟨s, hb, hn, hc⟩ := h.2 ok
    exact ⟨s.kept hk (fun p e hm => by have := hb p e; simp at hm; omega), fun p e => ⟨(hb p e).1, Nat.lt_of_lt_of_le (hb p e).2 hk.size⟩, hn, hc⟩⟩

theorem OpR.more {w W8 : World} {a : Nat} {fp : List Nat} {d : Dev} {Lb Bb : Nat} {A0 : Option Addr} {n0 c0 : Nat} {all : List UInt8} {pre : List CutX} {A : Option Addr} {c : Nat} {X X1 X2 : World} {x : CutX} (hc : OpCtx w W8 fp Lb Bb A0) (h : OpR w W8 a fp d Lb A0 n0 c0 all pre A c X)
    (hok : x.ok = true) (hx : x.part.At X) (hxn : x.n ≤ 16384) (hxb : ∀ p, x.A = some p → W8.heap.size + 2 ≤ p.block ∧ p.block < X.heap.size ∧ (Value.slice A pre.length c).ownBlock ≠ some p.block)
    (hk1 : Kept [] X X1) (hg : X1.grownBy X2 (Value.slice A pre.length c).ownBlock) {A' : Option Addr} {c' : Nat}
    (hown : X2.ownsRow (W8.heap.size + 2) 34 1 (.slice A' (pre.length + 1) c') (pre.length + 1) (((pre.map CutX.part).map Part.val) ++ [.slice x.A x.n x.c]))
    (hA' : ∀ g, (Value.slice A' (pre.length + 1) c').ownBlock = some g → X1.heap.size ≤ g ∨ (Value.slice A pre.length c).ownBlock = some g) :
    OpR w W8 a fp d Lb A0 n0 c0 all (pre ++ [x]) A' c' (X2.setCell ⟨Lb, 0, none⟩ (.slice A' (pre.length + 1) c')) ∧ Kept (Lb :: (Value.slice A pre.length c).ownBlock.toList) X (X2.setCell ⟨Lb, 0, none⟩ (.slice A' (pre.length + 1) c')) := by
  have h1 := hc.lb; have h2 := hc.bb; have h3 := hc.ne
  have hk2 : Kept (Value.slice A pre.length c).ownBlock.toList X X2 := (hk1.mono (by simp)).trans (Kept.grown (F := (Value.slice A pre.length c).ownBlock.toList) hg (fun i e => by rw [e]; simp))
  have hk3 : Kept [Lb] X2 (X2.setCell ⟨Lb, 0, none⟩ (.slice A' (pre.length + 1) c')) := Kept.setCell (by simp) _
  have hkF : Kept (Lb :: (Value.slice A pre.length c).ownBlock.toList) X (X2.setCell ⟨Lb, 0, none⟩ (.slice A' (pre.length + 1) c')) := (hk2.mono (fun i hi => .inl (by simp [hi]))).trans (hk3.mono (fun i hi => .inl (by simp at hi; simp [hi])))
  have hob : ∀ j ∈ (Value.slice A pre.length c).ownBlock.toList, W8.heap.size + 2 ≤ j := fun j hj => (h.row.lt j (by simpa using hj)).1
  have hb2 := (hk2.block Lb (World.lt_of_heap h.bx) (fun hm => by have := hob _ hm; omega)).trans h.bx
  have hlen : (pre ++ [x]).length = pre.length + 1 := by simp
  refine ⟨⟨h.op.keep hc.fp hkF (fun j hj => ?_), ?_, ?_, fun y hy => ?_, fun y hy => ?_, h.sl.kept hkF (fun p e hm => ?_)⟩, hkF⟩
  · simp only [List.mem_cons] at hj
    rcases hj with rfl | hj
    · omega
    · have := hob _ hj; omega
  · rw [hlen]; exact heap_set hb2 0 _
  · rw [hlen, List.map_append, List.map_append]
    exact row_kept hown hk3 (fun j hj hm => by have h4 := (hown.lt j hj).1; simp at hm; omega)
  · simp only [List.mem_append, List.mem_cons, List.not_mem_nil, or_false] at hy
    rcases hy with hy | rfl
    · exact h.ok y hy
    · exact hok
  · have hy2 : y.part.At X ∧ y.n ≤ 16384 ∧ ∀ p, y.A = some p → W8.heap.size + 2 ≤ p.block ∧ p.block < X.heap.size ∧ (Value.slice A pre.length c).ownBlock ≠ some p.block := by
      simp only [List.mem_append, List.mem_cons, List.not_mem_nil, or_false] at hy
      rcases hy with hy | rfl
      · exact h.at_ y hy
      · exact ⟨hx, hxn, hxb⟩
    refine ⟨hy2.1.kept hkF (fun p e hm => ?_), hy2.2.1, fun p e => ?_⟩
    · have h5 := hy2.2.2 p e
      simp only [List.mem_cons, Option.mem_toList] at hm
      rcases hm with hm | hm
      · omega
      · exact h5.2.2 hm
    · have h5 := hy2.2.2 p e
      refine ⟨h5.1, Nat.lt_of_lt_of_le h5.2.1 hkF.size, fun he => ?_⟩
      rw [hlen] at he
      rcases hA' _ he with h6 | h6
      · have := hk1.size; omega
      · exact h5.2.2 h6
  · have h4 := hc.a0 p e
    simp only [List.mem_cons] at hm
    rcases hm with hm | hm
    · omega
    · have := hob _ hm; omega

theorem texts_parts (pre : List CutX) : texts (pre.map CutX.part) = pre.map CutX.xs := by simp [texts, CutX.part]

theorem OpR.done {w W8 : World} {a : Nat} {fp : List Nat} {d : Dev} {Lb Bb : Nat} {A0 : Option Addr} {n0 c0 : Nat} {all : List UInt8} {pre : List CutX} {A : Option Addr} {c : Nat} {X X1 Y : World} {f m e : Nat} {last : List UInt8} {AN : Option Addr} {ln cN : Nat} (hc : OpCtx w W8 fp Lb Bb A0)
    (h : OpR w W8 a fp d Lb A0 n0 c0 all pre A c X) (hD : W8.heap.size < X.heap.size) (hob : openBad d f m e = 0) (hall : (d.bytesAt f).take e = recs (pre.map CutX.xs)) (hsm : Small (pre.map CutX.xs)) (hk1 : Kept [] X X1) (hlast : last = ((d.bytesAt f).take e).drop (e - e % 128)) (hln : last.length = ln)
    (hAN : SlAt X1 AN ln cN (u8vs last)) (hN0 : AN = none → cN = 0) (hNb : ∀ p, AN = some p → X.heap.size ≤ p.block ∧ p.block < X1.heap.size)
    (hk2 : Kept [w.heap.size, w.heap.size + 1, w.heap.size + 1 + 1, W8.heap.size] X1 Y) {z : Nat} (hzX : X1.heap.size ≤ z)
    (hz : Y.heap[z]? = some (.cells #[.pointer (some ⟨a, 0, none⟩), .int .i64 f, .int .i64 m, .int .i64 e, .slice AN ln cN] 78 (0, 0))) :
    OpenPost w a d f m e (.returned (.tuple #[.pointer (some ⟨z, 0, none⟩), .slice A pre.length c, .int .i64 0])) Y := by
  have h1 := hc.lb; have h2 := hc.bb
  have hkX : Kept [w.heap.size, w.heap.size + 1, w.heap.size + 1 + 1, W8.heap.size] X Y := (hk1.mono (by simp)).trans hk2
  have hzY := World.lt_of_heap hz
  have hF : ∀ j ∈ [w.heap.size, w.heap.size + 1, w.heap.size + 1 + 1, W8.heap.size], j = w.heap.size ∨ j = w.heap.size + 1 ∨ j = w.heap.size + 2 ∨ j = W8.heap.size := fun j hj => by simpa using hj
  have hNX := hk1.size
  have hown := own_sl h.row
  refine ⟨(h.op.kept.trans' hk1 (by simp)).trans' hk2 (fun j hj => .inr (by have := hF j hj; omega)), .inr (.inr ⟨hob, z, z :: (AN.map (·.block)).toList, A, pre.length, c, pre.map CutX.part, rfl, ⟨by simp, hown.1.le, hown.1.max, fun p hp => ?_, fun hn => ?_⟩, ?_, ?_, ?_, fun j hj => ?_, fun p e => ?_, fun q hq p e => ?_⟩)⟩
  · obtain ⟨x, hx, rfl⟩ := List.mem_map.1 hp
    exact (h.at_ x hx).1.kept hkX (fun p e hm => by have := (h.at_ x hx).2.2 p e; have := hF _ hm; omega)
  · obtain ⟨b, o, rfl, hb, hcell⟩ := hown.1.cells hn
    have hbl := hown.2 _ rfl
    refine ⟨b, o, rfl, Nat.lt_of_lt_of_le hb hkX.size, fun i p hi => ?_⟩
    have hil := (List.getElem?_eq_some_iff.1 hi).1
    rw [List.length_map] at hil
    refine (hkX.cell (p := ⟨b, o + i, none⟩) hb (fun hm => by have := hF _ hm; simp only at hbl this; omega)).trans ?_
    rw [hcell i hil, List.getElem?_map, hi]
    rfl
  · rw [texts_parts]; exact hsm
  · rw [texts_parts, Int.toNat_natCast, Int.toNat_natCast]; exact hall
  · simp only [Int.toNat_natCast]
    rw [← hlast]
    refine ⟨⟨AN, cN, by rw [hln]; exact hz, by rw [hln]; exact hAN.kept hk2 (fun p e hm => by have := hNb p e; have := hF _ hm; omega), hN0, fun p e => ?_⟩, by simp, fun j hj => ?_⟩
    · subst e
      exact ⟨by simp, fun e2 => by have := hNb p rfl; omega⟩
    · simp only [List.mem_cons, Option.mem_toList, Option.map_eq_some_iff] at hj
      rcases hj with rfl | ⟨p, e, rfl⟩
      · exact hzY
      · exact Nat.lt_of_lt_of_le (hNb p e).2 hk2.size
  · simp only [List.mem_cons, Option.mem_toList, Option.map_eq_some_iff] at hj
    rcases hj with rfl | ⟨p, e, rfl⟩
    · omega
    · have := hNb p e; omega
  · have h5 := hown.2 p e
    refine ⟨by omega, fun hm => ?_⟩
    simp only [List.mem_cons, Option.mem_toList, Option.map_eq_some_iff] at hm
    rcases hm with hm | ⟨p2, e2, hm⟩
    · omega
    · have := hNb p2 e2; omega
  · obtain ⟨x, hx, rfl⟩ := List.mem_map.1 hq
    have h5 := (h.at_ x hx).2.2 p e
    refine ⟨by omega, fun hm => ?_⟩
    simp only [List.mem_cons, Option.mem_toList, Option.map_eq_some_iff] at hm
    rcases hm with hm | ⟨p2, e2, hm⟩
    · omega
    · have := hNb p2 e2; omega
end Go.Proofs.Ytbnflbkaogpnbaa

/- strip.Open: the walk where nothing stands in the way. -/
namespace Go.Proofs.Ytbnflbkaogpnbaa
open Go.RowKit Go.Shelf

attribute [local go_sem] Oper.semAt_some

set_option maxHeartbeats 4000000 in
set_option maxRecDepth 100000 in
theorem open_main {w : World} {a : Nat} {fp : List Nat} {d : Dev} (hD : Dv w a fp d) (f m e : Nat) (hz : d.at_ 0 = 0) (hfm : f + m ≤ d.secs.length) (hm1 : 1 ≤ m) (he : e ≤ 128 * m) (hob : openBad d f m e = 0) :
    Calls Try.prog 46 #[.pointer (some ⟨a, 0, none⟩), .int .i64 f, .int .i64 m, .int .i64 e] w (OpenPost w a d f m e) := by
  obtain ⟨W, hW⟩ : ∃ W, ((w.alloc (.cells #[.pointer none] 65)).alloc (.cells #[.slice none 0 0] 64)).alloc (.cells #[.int .i64 0] 25) = W := ⟨_, rfl⟩
  have hk : Kept [] w W := by rw [← hW]; exact ((Kept.alloc [] w _).trans (Kept.alloc [] _ _)).trans (Kept.alloc [] _ _)
  have hr1 : W.heap[w.heap.size]? = some (.cells #[.pointer none] 65 (0, 0)) := by rw [← hW, Below.heap_alloc _ _ _ (by simp; omega), Below.heap_alloc _ _ _ (by simp), heap_alloc_new]
  have hr2 : W.heap[w.heap.size + 1]? = some (.cells #[.slice none 0 0] 64 (0, 0)) := by
    have h := heap_alloc_new (w.alloc (.cells #[.pointer none] 65)) (.cells #[.slice none 0 0] 64)
    simp only [World.size_alloc] at h
    rw [← hW, Below.heap_alloc _ _ _ (by simp), h]
  have hr3 : W.heap[w.heap.size + 1 + 1]? = some (.cells #[.int .i64 0] 25 (0, 0)) := by
    have h := heap_alloc_new ((w.alloc (.cells #[.pointer none] 65)).alloc (.cells #[.slice none 0 0] 64)) (.cells #[.int .i64 0] 25)
    simp only [World.size_alloc] at h
    rw [← hW]; exact h
  have hOW : OpAt w W a fp d := ⟨hD.new_kept hk, hr1, hr2, hr3, hk⟩
  clear hk hr1 hr2 hr3
  have hm := hD.wf.many
  obtain ⟨hdead, _, hlen⟩ := Dev.at_zero hz
  obtain ⟨b0, hb0⟩ : ∃ b, d.secs[(0 : Int).toNat]? = some b := ⟨_, List.getElem?_eq_getElem (by simpa using hlen)⟩
  have cr := read_dv hOW.dv 0 hz hb0
  obtain ⟨M, hM⟩ : ∃ M, (e + 127) / 128 = M := ⟨_, rfl⟩
  obtain ⟨D, hDl⟩ : ∃ D, d.secs.length = D := ⟨_, rfl⟩
  have HM := Lib.hid hM; have HD := Lib.hid hDl
  have e1 : ¬ (f : Int) < 0 := by omega
  have e2 : ¬ (D : Int) < (f : Int) := by omega
  have e3 : ¬ (m : Int) < 1 := by omega
  have e4 : ¬ (D : Int) - (f : Int) < (m : Int) := by omega
  have e5 : ¬ (e : Int) < 0 := by omega
  have e6 : ¬ 128 * (m : Int) < (e : Int) := by omega
  have hMe : e ≤ 128 * M ∧ M ≤ m ∧ 128 * M < e + 128 := by omega
  rw [hDl] at hfm hm
  clear hM hDl hz hlen
  refine (callsIn_wide (n := 10)).1 ?_
  refine callsIn_of_wp_marks Try.func46 rfl trivial ?_ rfl
  simp only [Try.ntmps46, List.size_toArray, List.length_cons, List.length_nil, Nat.reduceAdd, Nat.reduceSub, Array.replicate_succ, Array.replicate_zero, List.push_toArray, List.append_toArray, List.nil_append, List.cons_append]
  refine wpIn_wide.2 ?_
  go_wp2_with (first | (go_at_call 30; refine cr.mono ?_; rintro e w1 ⟨A1, d1, rfl, hown1, hbel1⟩; have hO := hOW.next (Kept.of_below hbel1); obtain ⟨c1, c2, c3, f1, f2, f3⟩ := hO.cells; clear hown1 hbel1) | (go_at_call 37; refine (size_dv hO.dv).mono ?_; rintro e w' ⟨hsz, rfl⟩; rw [HD.out] at hsz; subst hsz))
  go_loopw [14, 63] (fun v i wr => OpL w w1 a fp d f M v i wr) (fun _ i _ => M - (intOf i).toNat)
  case atStart => exact ⟨0, none, 0, Nat.zero_le _, rfl, rfl, World.ownsRow_nil _ _ _ _, hO, Kept.refl _ _⟩
  case round =>
    obtain ⟨k, A2, n2, hk, rfl, rfl, hown, hO2, hk2⟩ := hrel
    by_cases hlt : k < M
    · have i1 : (k : Int) < ((e : Int) + 128 - 1) / 128 := by have := HM.out; omega
      obtain ⟨bk, hbk⟩ : ∃ b, d.secs[f + k]? = some b := ⟨_, List.getElem?_eq_getElem (by rw [HD.out]; omega)⟩
      have hzk : d.at_ ((f : Int) + (k : Int)) = 0 := by unfold Dev.at_; rw [hdead, if_neg (by simp), if_neg (by rw [HD.out]; omega)]
      have crk := read_dv hO2.dv ((f : Int) + (k : Int)) hzk (b := bk) (by rw [show ((f : Int) + (k : Int)).toNat = f + k by omega]; exact hbk)
      have HBK := Lib.hid (bytes_step hD.wf hbk)
      have hk8 : 128 * k + 128 ≤ 140737488355328 := by omega
      clear hzk hbk
      go_wp2_with (first
        | (go_at_call 30; refine crk.mono ?_; rintro e x2 ⟨A3, d3, rfl, hown3, hbel3⟩; have hk3 := Kept.of_below (F := []) hbel3; have hO3 := hO2.next hk3; have hwn2 := row_kept hown hk3 (by simp); obtain ⟨hs3, _⟩ := ClonePost.sl hown3; have hA3 := row_nil' hown3; have hbase := (hk2.trans hk3).size; clear hown3 hbel3)
        | (refine wpList_append_u8 rfl (.tmp 74) (.tmp 75) rfl w1.heap.size _ (128 * k) _ rfl hwn2 A3 128 d3 bk rfl hs3 hA3 hk8 hbase ?_; intro A4 c4 w4 hown4 hgrow4 hA4))
      go_roundw
      case rel =>
        have hgk : Kept [] w1 w4 := (hk2.trans hk3).trans' (Kept.grown (F := (Value.slice A2 (128 * k) n2).ownBlock.toList) hgrow4 (fun i e => by
          have e' : (Value.slice A2 (128 * k) n2).ownBlock = some i := e
          rw [e']; simp)) (fun i hi => .inr (hwn2.lt i (by simpa using hi)).1)
        refine ⟨k + 1, A4, c4, by omega, by go_num, rfl, by rw [HBK.out]; exact hown4, hO.next hgk, hgk⟩
      case measure => simp [intOf]; omega
    · have i1 : ¬ (k : Int) < ((e : Int) + 128 - 1) / 128 := by have := HM.out; omega
      obtain rfl : k = M := by omega
      obtain ⟨hsl2, hb2⟩ := own_sl hown
      have hnil2 := row_nil' hown
      have hle2 := hsl2.le; have hmx2 := hsl2.max
      unfold maxLen at hmx2
      have hse : (e : Int) ≤ (n2 : Int) := by omega
      clear hown
      obtain ⟨wL, hwL⟩ : ∃ W, wr.alloc (.cells #[.slice none 0 0] 64) = W := ⟨_, rfl⟩
      have hkL : Kept [] wr wL := by rw [← hwL]; exact Kept.alloc [] _ _
      have hLs : wL.heap.size ≤ wr.heap.size + 1 ∧ wr.heap.size + 1 ≤ wL.heap.size := by rw [← hwL]; simp
      have hLb : wL.heap[wr.heap.size]? = some (.cells #[.slice none 0 0] 64 (0, 0)) := by rw [← hwL]; exact heap_alloc_new _ _
      obtain ⟨b0, hb0⟩ : ∃ b0, (d.bytesAt f).take e = b0 := ⟨_, rfl⟩
      have hlow : SlAt wL A2 e n2 (u8vs b0) := by
        have h1 := (hsl2.low (j := e) hMe.1).kept hkL (by simp)
        rwa [List.take_take, Nat.min_eq_left hMe.1, hb0] at h1
      have hb0l : b0.length = e := by simpa [u8vs] using hlow.len
      have hsz2 := hk2.size
      have hszO := World.lt_of_heap hO.r3
      have hOL := hO2.next hkL
      have hHM := HM.out
      clear hO2 hsl2 c1 c2 c3 f1 f2 f3 hO
      go_wp2_with fail
      refine (cut_any _ _ _ _).mono ?_
      rintro e0 w8 ⟨rfl, hw8⟩
      have hk8 : Kept [] wL w8 := by rw [hw8]; exact Kept.alloc [] _ _
      have h8s : w8.heap.size ≤ wL.heap.size + 1 ∧ wL.heap.size + 1 ≤ w8.heap.size := by rw [hw8]; simp
      have hBb : w8.heap[wL.heap.size]? = some (.cells #[.slice A2 e n2] 34 (0, 0)) := by rw [hw8]; exact heap_alloc_new _ _
      have hLb8 := (hk8.block _ (World.lt_of_heap hLb) (by simp)).trans hLb
      have hO8 := hOL.next hk8
      have hlow8 := hlow.kept hk8 (by simp)
      have hcx : OpCtx w w8 fp wr.heap.size wL.heap.size A2 := ⟨hD.lt, by omega, by omega, by omega, fun p e => by have := hb2 p e; omega⟩
      have hR0 : OpI w w8 a fp d wr.heap.size A2 e n2 b0 [] w8 := ⟨none, 0, hO8, hLb8, World.ownsRow_nil _ _ _ _, by simp, by simp, hlow8⟩
      clear hOL hlow hLb hO8 hLb8 hw8 hkL hk8
      go_wp2_with fail
      refine (wpIn_wide (n := 10)).1 ?_
      refine' wpIn_rangeFunc_kept (encs := CutX.vals) (B := [wL.heap.size]) (R := wL.heap.size :: (A2.map (·.block)).toList) (G := CutGs b0) rfl (by omega) (gf := 109) (lb := #[.pointer (some ⟨wL.heap.size, 0, none⟩)]) rfl trivial (enters_of Try.func109 (by kernel_rfl) rfl)
        (cut_seq 9 (by omega) wL.heap.size b0 (by omega) A2 e n2 w8 hBb hlow8 (fun p e => by have := hb2 p e; omega)) (fun _ => rfl) (by simp; omega)
        (fun j hj => by
          simp only [List.mem_cons, Option.mem_toList, Option.map_eq_some_iff] at hj
          rcases hj with rfl | ⟨p, e, rfl⟩
          · omega
          · have := hb2 p e; omega)
        (fun _ _ _ _ _ h1 h hk => cutG_keep h1 h hk)
        (OpI w w8 a fp d wr.heap.size A2 e n2 b0) (OpX w a fp d)
        (fun pre X Y ⟨A, c, h⟩ hk => ⟨A, c, h.keep hcx hk (fun j hj => by simpa using hj)⟩)
        (fun c pre X Y ⟨h1, h2, h3⟩ hk => ⟨h1, h2, h3.keep hD.lt hk (fun j hj => by simp only [List.mem_cons, List.not_mem_nil, or_false] at hj; omega)⟩)
        hR0 _ ?assign ?body ?done ?stop
      case assign =>
        intro l x X K hK
        dsimp only [CutX.vals]
        gi_wp2
        exact hK
      case body =>
        rintro l pre ⟨xA, xn, xc, xs, ok⟩ X0 X hX0 ⟨AL, cL, hR⟩ hkX ⟨hpl, hG⟩
        have hRX := hR.keep hcx hkX (fun j hj => by simpa using hj)
        have hXs : w8.heap.size + 2 ≤ X.heap.size := Nat.le_trans hX0 hkX.size
        obtain ⟨c1, c2, c3, f1, f2, f3⟩ := hRX.op.cells
        cases ok with
        | false =>
          gi_wp2
          exact ⟨Stays.of_kept (hRX.op.set3 _ _ _).2.2.2 (fun k hk _ hm => by simp only [List.mem_cons, List.not_mem_nil, or_false] at hk hm; omega), rfl, ⟨pre, _, rfl, rfl⟩, hRX.op.put3 hcx.fp _ _ _⟩
        | true =>
          obtain ⟨hs, hsb, hs0, hs16⟩ := hG rfl
          obtain ⟨j0, hj0, ju0, ju1, ju2⟩ := info_parts info_bytes
          have cb : X.cell? ⟨wr.heap.size, 0, none⟩ = some (.slice AL pre.length cL) := by rw [blk_cell hRX.bx]; rfl
          have hkS : Kept [] X (X.alloc (.cells #[.slice xA xn xc] 34)) := Kept.alloc [] _ _
          have hrowS := row_kept hRX.row hkS (by simp)
          have hnews : ∀ j u, [Value.slice xA xn xc][j]? = some u → (X.alloc (.cells #[.slice xA xn xc] 34)).cell? ((⟨X.heap.size, 0, none⟩ : Addr).add j) = some u := fun j u hj => by
            have hj0 : j = 0 := by have := (List.getElem?_eq_some_iff.1 hj).1; simp at this; exact this
            subst hj0
            rw [add_block, blk_cell (heap_alloc_new _ _)]
            simpa using hj
          have hone : ∀ u ∈ [Value.slice xA xn xc], u.oneCell' = true := fun u hu => by simp at hu; subst hu; rfl
          have hbX := hRX.bx
          have hxb : ∀ p, xA = some p → w8.heap.size + 2 ≤ p.block ∧ p.block < X.heap.size ∧ (Value.slice AL pre.length cL).ownBlock ≠ some p.block := fun p e => by
            have h5 := hsb p e
            refine ⟨by omega, h5.2, fun he => ?_⟩
            have h6 := (hR.row.lt _ he).2
            omega
          have hmany : pre.length + 1 ≤ maxLen ∧ (pre.length + 1) * 24 ≤ 140737488355328 := by unfold maxLen; omega
          have hrlt := hRX.row.lt
          clear hkX c1 c2 c3 f1 f2 f3
          gi_upto_region 22 with fail
          refine wpIn_region_open (by kernel_rfl) (fun K hK => ?_)
          go_wp2_with (at_builtin; refine Hold.of ?_)
          unfold Hold
          refine wpList_append_lies _ rfl (.tmp 86) (.tmp 88) 64 rfl (w8.heap.size + 2) 34 j0 _ 1 24 Try.underlying64 hj0 ju0 ju1 ju2 rfl (by decide) _ pre.length _ rfl hrowS ⟨X.heap.size, 0, none⟩ 1 1 [.slice xA xn xc] rfl rfl hnews hone (by omega) hmany.1 hmany.2 (by simp; omega) (X.heap.size + 1) (by simp) ?_
          intro g cap w4 hown4 hgrow4 hat4 hlt4
          replace hgrow4 : (X.alloc (.cells #[.slice xA xn xc] 34)).grownBy w4 (Value.slice AL pre.length cL).ownBlock := hgrow4
          replace hat4 : (Value.slice AL pre.length cL).ownBlock = some g ∨ g = X.heap.size + 1 := hat4
          have hkg : Kept (Value.slice AL pre.length cL).ownBlock.toList (X.alloc (.cells #[.slice xA xn xc] 34)) w4 := Kept.grown hgrow4 (fun i e => by rw [e]; simp)
          have hLX := World.lt_of_heap hbX
          have hnotL : wr.heap.size ∉ (Value.slice AL pre.length cL).ownBlock.toList := fun hm => by have := (hrlt _ (by simpa using hm)).1; omega
          have hb4 := (hkg.block _ (by simp; omega) hnotL).trans ((hkS.block _ hLX (by simp)).trans hbX)
          have c4 : w4.cell? ⟨wr.heap.size, 0, none⟩ = some (.slice AL pre.length cL) := by rw [blk_cell hb4]; rfl
          have f4 : w4.frozen? ⟨wr.heap.size, 0, none⟩ = false := blk_frozen hb4 0
          obtain ⟨hR2, hk4⟩ := hRX.more (x := ⟨xA, xn, xc, xs, true⟩) hcx rfl ⟨hs, hs0⟩ hs16 hxb hkS hgrow4 (A' := some ⟨g, 0, none⟩) (c' := cap) hown4 (fun g2 e => by
            have e2 : g = g2 := by simpa [Value.ownBlock] using e
            subst e2
            rcases hat4 with h | h
            · exact .inr h
            · exact .inl (by simp; omega))
          have hHR2 := Lib.hid hR2; have hHk4 := Lib.hid hk4
          clear hR2 hk4 hkg hb4 hown4 hgrow4 hat4 hrowS hkS hbX hnews hone hR
          go_wp2_with fail
          exact ⟨Stays.of_kept hHk4.out (fun k hk _ hm => by
            simp only [List.mem_cons, Option.mem_toList, Option.map_eq_some_iff] at hk
            have hm2 : k = wr.heap.size ∨ w8.heap.size + 2 ≤ k := by
              simp only [List.mem_cons] at hm
              rcases hm with hm | hm
              · exact .inl hm
              · exact .inr (hrlt _ (by simpa using hm)).1
            rcases hk with rfl | rfl | rfl | ⟨p, e, rfl⟩
            · omega
            · omega
            · omega
            · have := hb2 p e; omega), _, _, hHR2.out⟩
      case done =>
        rintro pre X hS ⟨AL, cL, hR⟩ hDX
        obtain ⟨hok, hrec, hsm⟩ : (∀ x ∈ pre, x.ok = true) ∧ b0 = recs (pre.map CutX.xs) ∧ Small (pre.map CutX.xs) := by
          rcases hS with h | ⟨p, x, rfl, hx, _⟩
          · exact h
          · have := hR.ok x (by simp)
            rw [hx] at this
            cases this
        have hDs := World.lt_of_heap hDX
        obtain ⟨lo, hlo⟩ : ∃ lo, e - e % 128 = lo := ⟨_, rfl⟩
        have hloe : lo ≤ e := by omega
        have hlow : IntKind.i64.wrap ((e : Int) - (e : Int).tmod 128) = ((lo : Nat) : Int) := by
          rw [Int.tmod_eq_emod_of_nonneg (by omega), IntKind.wrap_i64]
          omega
        have hlast := (hR.sl.sliced hloe (Nat.le_refl e)).kept (Kept.drew [] X) (by simp)
        rw [List.take_of_length_le (by omega)] at hlast
        obtain ⟨AX, hAX⟩ : ∃ AX : Option Addr, (if n2 = lo then A2 else A2.map (·.add lo)) = AX := ⟨_, rfl⟩
        rw [hAX] at hlast
        have hlo1 : (0 ≤ ((lo : Nat) : Int) ∧ ((lo : Nat) : Int) ≤ (e : Int)) := by omega
        have hob0 : b0.drop lo = ((d.bytesAt f).take e).drop (e - e % 128) := by rw [hlo, hb0]
        have HLO := Lib.hid hlo; have HOB := Lib.hid hob0
        have x0 : X.cell? ⟨wr.heap.size, 0, none⟩ = some (.slice AL pre.length cL) := by rw [blk_cell hR.bx]; rfl
        have hLX := World.lt_of_heap hR.bx
        clear hlo hob0
        go_wp2_with fail
        refine wp_region_calm (S := (fun W => W.cell? ⟨wr.heap.size, 0, none⟩ = some (.slice AL pre.length cL))) (by kernel_rfl) x0 (fun hHeld => ?_)
        refine wpAnyH_take (i := 0) (v := ?_) (by simp only [List.getElem?_toArray, List.getElem?_cons_zero]; rfl) (by kernel_rfl) (by kernel_rfl) (by kernel_rfl) (by exact fun _ _ _ h => h) (Or.inl ⟨by rfl, ?_⟩) hHeld ?_
        rotate_left
        · intro w hSw
          try dsimp only at hSw
          go_simp
          all_goals with_reducible rfl
        try simp only [Act.put, List.setIfInBounds_toArray, List.set_cons_zero, List.set_cons_succ]
        refine wpAnyH_take (i := 1) (v := ?_) (by simp only [List.getElem?_toArray, List.getElem?_cons_succ, List.getElem?_cons_zero]; rfl) (by kernel_rfl) (by kernel_rfl) (by kernel_rfl) (by exact fun _ _ _ h => h) (Or.inl ⟨by rfl, ?_⟩) hHeld ?_
        rotate_left
        · intro w hSw
          try dsimp only at hSw
          go_simp
          all_goals with_reducible rfl
        try simp only [Act.put, List.setIfInBounds_toArray, List.set_cons_zero, List.set_cons_succ]
        refine wpAnyH_take (i := 2) (v := ?_) (by simp only [List.getElem?_toArray, List.getElem?_cons_succ, List.getElem?_cons_zero]; rfl) (by kernel_rfl) (by kernel_rfl) (by kernel_rfl) (by exact fun _ _ _ h => h) (Or.inl ⟨by rfl, ?_⟩) hHeld ?_
        rotate_left
        · intro w hSw
          try dsimp only at hSw
          go_simp
          all_goals with_reducible rfl
        try simp only [Act.put, List.setIfInBounds_toArray, List.set_cons_zero, List.set_cons_succ]
        refine wpAnyH_take (i := 3) (v := ?_) (by simp only [List.getElem?_toArray, List.getElem?_cons_succ, List.getElem?_cons_zero]; rfl) (by kernel_rfl) (by kernel_rfl) (by kernel_rfl) (by exact fun _ _ _ h => h) (Or.inl ⟨by rfl, ?_⟩) hHeld ?_
        rotate_left
        · intro w hSw
          try dsimp only at hSw
          go_simp
          all_goals with_reducible rfl
        try simp only [Act.put, List.setIfInBounds_toArray, List.set_cons_zero, List.set_cons_succ]
        refine wpAnyH_take (i := 4) (v := ?_) (by simp only [List.getElem?_toArray, List.getElem?_cons_succ, List.getElem?_cons_zero]; rfl) (by kernel_rfl) (by kernel_rfl) (by kernel_rfl) (by exact fun _ _ _ h => h) (Or.inl ⟨by rfl, ?_⟩) hHeld ?_
        rotate_left
        · intro w hSw
          try dsimp only at hSw
          go_simp
          all_goals with_reducible rfl
        try simp only [Act.put, List.setIfInBounds_toArray, List.set_cons_zero, List.set_cons_succ]
        refine wpAnyH_take (i := 5) (v := ?_) (by simp only [List.getElem?_toArray, List.getElem?_cons_succ, List.getElem?_cons_zero]; rfl) (by kernel_rfl) (by kernel_rfl) (by kernel_rfl) (by exact fun _ _ _ h => h) (Or.inl ⟨by rfl, ?_⟩) hHeld ?_
        rotate_left
        · intro w hSw
          try dsimp only at hSw
          go_simp
          all_goals with_reducible rfl
        try simp only [Act.put, List.setIfInBounds_toArray, List.set_cons_zero, List.set_cons_succ]
        refine wpAnyH_take (i := 6) (v := ?_) (by simp only [List.getElem?_toArray, List.getElem?_cons_succ, List.getElem?_cons_zero]; rfl) (by kernel_rfl) (by kernel_rfl) (by kernel_rfl) (by exact fun _ _ _ h => h) (Or.inl ⟨by rfl, ?_⟩) hHeld ?_
        rotate_left
        · intro w hSw
          try dsimp only at hSw
          go_simp
          all_goals with_reducible rfl
        try simp only [Act.put, List.setIfInBounds_toArray, List.set_cons_zero, List.set_cons_succ]
        refine wpAnyH_take (i := 7) (v := ?_) (by simp only [List.getElem?_toArray, List.getElem?_cons_succ, List.getElem?_cons_zero]; rfl) (by kernel_rfl) (by kernel_rfl) (by kernel_rfl) (by exact fun _ _ _ h => h) (Or.inl ⟨by rfl, ?_⟩) hHeld ?_
        rotate_left
        · intro w hSw
          try dsimp only at hSw
          go_simp
          all_goals with_reducible rfl
        try simp only [Act.put, List.setIfInBounds_toArray, List.set_cons_zero, List.set_cons_succ]
        refine wpAnyH_take (i := 8) (v := ?_) (by simp only [List.getElem?_toArray, List.getElem?_cons_succ, List.getElem?_cons_zero]; rfl) (by kernel_rfl) (by kernel_rfl) (by kernel_rfl) (by exact fun _ _ _ h => h) (Or.inl ⟨by rfl, ?_⟩) hHeld ?_
        rotate_left
        · intro w hSw
          try dsimp only at hSw
          go_simp
          all_goals with_reducible rfl
        try simp only [Act.put, List.setIfInBounds_toArray, List.set_cons_zero, List.set_cons_succ]
        try simp only [hlow]
        refine wpAnyH_take (i := 9) (v := ?_) (by simp only [List.getElem?_toArray, List.getElem?_cons_succ, List.getElem?_cons_zero]; rfl) (by kernel_rfl) (by kernel_rfl) (by kernel_rfl) (by exact fun _ _ _ h => h) (Or.inl ⟨by rfl, ?_⟩) hHeld ?_
        rotate_left
        · intro w hSw
          try dsimp only at hSw
          go_simp
          all_goals with_reducible rfl
        try simp only [Act.put, List.setIfInBounds_toArray, List.set_cons_zero, List.set_cons_succ]
        refine wpAnyH_take (i := 10) (v := ?_) (by simp only [List.getElem?_toArray, List.getElem?_cons_succ, List.getElem?_cons_zero]; rfl) (by kernel_rfl) (by kernel_rfl) (by kernel_rfl) (by exact fun _ _ _ h => h) (Or.inl ⟨by rfl, ?_⟩) hHeld ?_
        rotate_left
        · intro w hSw
          try dsimp only at hSw
          go_simp
          try simp only [hlo1, and_self, if_true]
          all_goals with_reducible rfl
        try simp only [Act.put, List.setIfInBounds_toArray, List.set_cons_zero, List.set_cons_succ]
        try simp only [hAX]
        refine wpAnyH_take (i := 14) (v := ?_) (by simp only [List.getElem?_toArray, List.getElem?_cons_succ, List.getElem?_cons_zero]; rfl) (by kernel_rfl) (by kernel_rfl) (by kernel_rfl) (by exact fun _ _ _ h => h) (Or.inl ⟨by rfl, ?_⟩) hHeld ?_
        rotate_left
        · intro w hSw
          try dsimp only at hSw
          go_simp
          all_goals with_reducible rfl
        try simp only [Act.put, List.setIfInBounds_toArray, List.set_cons_zero, List.set_cons_succ]
        refine wpAnyH_ready (rs := [11]) (by kernel_rfl) (by simp) ?_
        refine AllReadyH.cons (by simp only [List.getElem?_toArray, List.getElem?_cons_succ, List.getElem?_cons_zero]; rfl) (fun K hK => ?_) AllReadyH.nil
        go_simp
        refine (bytesClone_any X.drew _ _ _ (b0.drop lo) hlast (by omega)).mono ?_
        rintro e0 x6 ⟨AN, cN, rfl, hownN, hbelN⟩
        have hk6 : Kept [] X x6 := (Kept.drew [] X).trans (Kept.of_below hbelN)
        obtain ⟨hsN, hNb0⟩ := own_sl hownN
        have hN0 := row_nil' hownN
        have hO6 := hR.op.next hk6
        have x6c : x6.cell? ⟨wr.heap.size, 0, none⟩ = some (.slice AL pre.length cL) := (hk6.cell (p := ⟨wr.heap.size, 0, none⟩) hLX (by simp)).trans x0
        clear hownN hbelN
        go_wp2_with fail
        refine hK.out _ _ ?_ (fun hHeld2 => ?_)
        · exact x6c
        clear hK K hHeld
        have hHeld := hHeld2
        clear hHeld2
        try simp only [Act.put, List.setIfInBounds_toArray, List.set_cons_zero, List.set_cons_succ]
        refine wpAnyH_take (i := 12) (v := ?_) (by simp only [List.getElem?_toArray, List.getElem?_cons_succ, List.getElem?_cons_zero]; rfl) (by kernel_rfl) (by kernel_rfl) (by kernel_rfl) (by exact fun _ _ _ h => h) (Or.inl ⟨by rfl, ?_⟩) hHeld ?_
        rotate_left
        · intro w hSw
          try dsimp only at hSw
          go_simp
          all_goals with_reducible rfl
        try simp only [Act.put, List.setIfInBounds_toArray, List.set_cons_zero, List.set_cons_succ]
        refine wpAnyH_ready (rs := [13]) (by kernel_rfl) (by simp) ?_
        refine AllReadyH.cons (by simp only [List.getElem?_toArray, List.getElem?_cons_succ, List.getElem?_cons_zero]; rfl) (fun K hK => ?_) AllReadyH.nil
        go_simp
        have hk7 : Kept [] x6 (x6.alloc (.cells #[.pointer (some ⟨a, 0, none⟩), .int .i64 f, .int .i64 m, .int .i64 e, .slice AN (e - lo) cN] 78)) := Kept.alloc [] _ _
        have hz7 := heap_alloc_new x6 (.cells #[.pointer (some ⟨a, 0, none⟩), .int .i64 f, .int .i64 m, .int .i64 e, .slice AN (e - lo) cN] 78)
        have hO7 := hO6.next hk7
        have x7c : (x6.alloc (.cells #[.pointer (some ⟨a, 0, none⟩), .int .i64 f, .int .i64 m, .int .i64 e, .slice AN (e - lo) cN] 78)).cell? ⟨wr.heap.size, 0, none⟩ = some (.slice AL pre.length cL) := (hk7.cell (p := ⟨wr.heap.size, 0, none⟩) (Nat.lt_of_lt_of_le hLX hk6.size) (by simp)).trans x6c
        obtain ⟨c1, c2, c3, f1, f2, f3⟩ := hO7.cells
        have hP9 := hO7.put3 hcx.fp (.pointer (some ⟨x6.heap.size, 0, none⟩)) (.slice AL pre.length cL) (.int .i64 0)
        have hk9 := (hO7.set3 (.pointer (some ⟨x6.heap.size, 0, none⟩)) (.slice AL pre.length cL) (.int .i64 0)).2.2.2
        have hL7 : wr.heap.size < (x6.alloc (.cells #[.pointer (some ⟨a, 0, none⟩), .int .i64 f, .int .i64 m, .int .i64 e, .slice AN (e - lo) cN] 78)).heap.size := Nat.lt_of_lt_of_le hLX (Nat.le_trans hk6.size hk7.size)
        generalize World.alloc x6 (.cells #[.pointer (some ⟨a, 0, none⟩), .int .i64 f, .int .i64 m, .int .i64 e, .slice AN (e - lo) cN] 78) = x7 at *
        refine hK.out _ _ ?_ (fun hHeld2 => ?_)
        · exact x7c
        clear hK K hHeld
        have hHeld := hHeld2
        clear hHeld2
        try simp only [Act.put, List.setIfInBounds_toArray, List.set_cons_zero, List.set_cons_succ]
        refine wpAnyH_ready (rs := [15]) (by kernel_rfl) (by simp) ?_
        refine AllReadyH.cons (by simp only [List.getElem?_toArray, List.getElem?_cons_succ, List.getElem?_cons_zero]; rfl) (fun K hK => ?_) AllReadyH.nil
        go_simp
        have ks1 : Kept [w.heap.size] x7 (x7.setCell ⟨w.heap.size, 0, none⟩ (.pointer (some ⟨x6.heap.size, 0, none⟩))) := Kept.setCell (by simp) _
        have x8c := (ks1.cell (p := ⟨wr.heap.size, 0, none⟩) hL7 (by simp; omega)).trans x7c
        refine hK.out _ _ ?_ (fun hHeld2 => ?_)
        · exact x8c
        clear hK K hHeld
        have hHeld := hHeld2
        clear hHeld2
        try simp only [Act.put, List.setIfInBounds_toArray, List.set_cons_zero, List.set_cons_succ]
        refine wpAnyH_ready (rs := [16]) (by kernel_rfl) (by simp) ?_
        refine AllReadyH.cons (by simp only [List.getElem?_toArray, List.getElem?_cons_succ, List.getElem?_cons_zero]; rfl) (fun K hK => ?_) AllReadyH.nil
        go_simp
        have ks2 : Kept [w.heap.size + 1] (x7.setCell ⟨w.heap.size, 0, none⟩ (.pointer (some ⟨x6.heap.size, 0, none⟩))) ((x7.setCell ⟨w.heap.size, 0, none⟩ (.pointer (some ⟨x6.heap.size, 0, none⟩))).setCell ⟨w.heap.size + 1, 0, none⟩ (.slice AL pre.length cL)) := Kept.setCell (by simp) _
        have x9c := (ks2.cell (p := ⟨wr.heap.size, 0, none⟩) (Nat.lt_of_lt_of_le hL7 ks1.size) (by simp; omega)).trans x8c
        refine hK.out _ _ ?_ (fun hHeld2 => ?_)
        · exact x9c
        clear hK K hHeld
        have hHeld := hHeld2
        clear hHeld2
        try simp only [Act.put, List.setIfInBounds_toArray, List.set_cons_zero, List.set_cons_succ]
        refine wpAnyH_ready (rs := [17]) (by kernel_rfl) (by simp) ?_
        refine AllReadyH.cons (by simp only [List.getElem?_toArray, List.getElem?_cons_succ, List.getElem?_cons_zero]; rfl) (fun K hK => ?_) AllReadyH.nil
        go_simp
        have ks3 := Kept.setCell (F := [w.heap.size + 1 + 1]) (p := ⟨w.heap.size + 1 + 1, 0, none⟩) (w := (x7.setCell ⟨w.heap.size, 0, none⟩ (.pointer (some ⟨x6.heap.size, 0, none⟩))).setCell ⟨w.heap.size + 1, 0, none⟩ (.slice AL pre.length cL)) (by simp) (.int .i64 0)
        have x10c := (ks3.cell (p := ⟨wr.heap.size, 0, none⟩) (Nat.lt_of_lt_of_le hL7 (Nat.le_trans ks1.size ks2.size)) (by simp; omega)).trans x9c
        refine hK.out _ _ ?_ (fun hHeld2 => ?_)
        · exact x10c
        clear hK K hHeld
        have hHeld := hHeld2
        clear hHeld2
        try simp only [Act.put, List.setIfInBounds_toArray, List.set_cons_zero, List.set_cons_succ]
        refine wpAnyH_calm (by kernel_rfl) ?_ _
        clear ks1 ks2 ks3 x8c x9c x10c x7c x6c c1 c2 c3 f1 f2 f3 hHeld
        generalize ((x7.setCell ⟨w.heap.size, 0, none⟩ (.pointer (some ⟨x6.heap.size, 0, none⟩))).setCell ⟨w.heap.size + 1, 0, none⟩ (.slice AL pre.length cL)).setCell ⟨w.heap.size + 1 + 1, 0, none⟩ (.int .i64 0) = x9 at *
        go_wp2_with fail
        have hD6 := (hk6.block _ hDs (by simp)).trans hDX
        have hD7 := (hk7.block _ (World.lt_of_heap hD6) (by simp)).trans hD6
        have hD9 := (hk9.block _ (World.lt_of_heap hD7) (by simp; omega)).trans hD7
        refine ⟨by simp, .inl ⟨_, _, rfl, run_takeDeferred hD9, ?_⟩⟩
        have hkD : Kept [w8.heap.size] x9 (x9.putObj w8.heap.size (.deferred none)) := Kept.putObj (r := w8.heap.size) (by simp) _ _
        have hPD := hP9.keep hD.lt hkD (fun j hj => by simp at hj; omega)
        refine ⟨_, results_cells3 rfl _ _ w.heap.size (w.heap.size + 1) (w.heap.size + 1 + 1) _ _ _ rfl rfl rfl (by rw [blk_cell hPD.r1]; rfl) (by rw [blk_cell hPD.r2]; rfl) (by rw [blk_cell hPD.r3]; rfl) agg_strip agg_bytess agg_errno, ?_⟩
        have hw6 := hk6.size
        have hw7 := hk7.size
        have hz9 := (hk9.block _ (World.lt_of_heap hz7) (by simp; omega)).trans hz7
        have hzD := (hkD.block _ (World.lt_of_heap hz9) (by simp; omega)).trans hz9
        exact hR.done (X1 := x6) (ln := e - lo) (last := b0.drop lo) (z := x6.heap.size) hcx hDs hob (by rw [hb0]; exact hrec) hsm hk6 HOB.out (by rw [List.length_drop, hb0l]) hsN hN0 (fun p e => hNb0 p e)
          (((hk7.mono (by simp)).trans (hk9.mono (fun i hi => .inl (by simp at hi ⊢; omega)))).trans (hkD.mono (fun i hi => .inl (by simp at hi ⊢; omega)))) (Nat.le_refl _) hzD
      case stop =>
        rintro c pre X hSp ⟨rfl, ⟨p, x, rfl, hxo⟩, hrt⟩ hDX
        have hno : NoRecs b0 := by
          obtain ⟨p2, x2, e2, h2⟩ := hSp
          obtain ⟨_, e3⟩ := List.append_inj' e2 rfl
          cases e3
          exact h2 hxo
        rw [← hb0] at hno
        refine (wpIn_wide (n := 10)).2 ?_
        go_wp2_with fail
        refine ⟨by simp, .inl ⟨_, _, rfl, run_takeDeferred hDX, ?_⟩⟩
        have hrf := hrt.keep hD.lt (Kept.putObj (F := [w8.heap.size]) (r := w8.heap.size) (by simp) X (.deferred none)) (fun j hj => by simp at hj; omega)
        refine ⟨_, results_cells3 rfl _ _ w.heap.size (w.heap.size + 1) (w.heap.size + 1 + 1) _ _ _ rfl rfl rfl (by rw [blk_cell hrf.r1]; rfl) (by rw [blk_cell hrf.r2]; rfl) (by rw [blk_cell hrf.r3]; rfl) agg_strip agg_bytess agg_errno, ?_⟩
        exact ⟨hrf.kept, .inr (.inl ⟨hob, hno, rfl⟩)⟩
end Go.Proofs.Ytbnflbkaogpnbaa

/- strip.Open. -/
namespace Go.Proofs.Ytbnflbkaogpnbaa
open Go.RowKit Go.Shelf

attribute [local go_sem] Oper.semAt_some

set_option maxHeartbeats 4000000 in
set_option maxRecDepth 100000 in
theorem open_any {w : World} {a : Nat} {fp : List Nat} {d : Dev} (hD : Dv w a fp d) (first many fin : Int) (h1 : I64 first) (h2 : I64 many) (h3 : I64 fin) :
    Calls Try.prog 46 #[.pointer (some ⟨a, 0, none⟩), .int .i64 first, .int .i64 many, .int .i64 fin] w (OpenPost w a d first many fin) := by
  unfold I64 at h1 h2 h3
  obtain ⟨W, hW⟩ : ∃ W, ((w.alloc (.cells #[.pointer none] 65)).alloc (.cells #[.slice none 0 0] 64)).alloc (.cells #[.int .i64 0] 25) = W := ⟨_, rfl⟩
  have hk : Kept [] w W := by rw [← hW]; exact ((Kept.alloc [] w _).trans (Kept.alloc [] _ _)).trans (Kept.alloc [] _ _)
  have hr1 : W.heap[w.heap.size]? = some (.cells #[.pointer none] 65 (0, 0)) := by rw [← hW, Below.heap_alloc _ _ _ (by simp; omega), Below.heap_alloc _ _ _ (by simp), heap_alloc_new]
  have hr2 : W.heap[w.heap.size + 1]? = some (.cells #[.slice none 0 0] 64 (0, 0)) := by
    have h := heap_alloc_new (w.alloc (.cells #[.pointer none] 65)) (.cells #[.slice none 0 0] 64)
    simp only [World.size_alloc] at h
    rw [← hW, Below.heap_alloc _ _ _ (by simp), h]
  have hr3 : W.heap[w.heap.size + 1 + 1]? = some (.cells #[.int .i64 0] 25 (0, 0)) := by
    have h := heap_alloc_new ((w.alloc (.cells #[.pointer none] 65)).alloc (.cells #[.slice none 0 0] 64)) (.cells #[.int .i64 0] 25)
    simp only [World.size_alloc] at h
    rw [← hW]; exact h
  have hOW : OpAt w W a fp d := ⟨hD.new_kept hk, hr1, hr2, hr3, hk⟩
  clear hk hr1 hr2 hr3
  have hm := hD.wf.many
  by_cases hz : d.at_ 0 = 0
  · obtain ⟨hdead, _, hlen⟩ := Dev.at_zero hz
    obtain ⟨b0, hb0⟩ : ∃ b, d.secs[(0 : Int).toNat]? = some b := ⟨_, List.getElem?_eq_getElem (by simpa using hlen)⟩
    have cr := read_dv hOW.dv 0 hz hb0
    by_cases e1 : first < 0
    · have hob : openBad d first many fin = 9 := by unfold openBad; rw [if_neg (by omega), if_pos (by omega)]
      clear h1 h2 h3
      refine (callsIn_wide (n := 10)).1 ?_
      refine callsIn_of_wp_marks Try.func46 rfl trivial ?_ rfl
      simp only [Try.ntmps46, List.size_toArray, List.length_cons, List.length_nil, Nat.reduceAdd, Nat.reduceSub, Array.replicate_succ, Array.replicate_zero, List.push_toArray, List.append_toArray, List.nil_append, List.cons_append]
      refine wpIn_wide.2 ?_
      go_wp2_with (first | (go_at_call 30; refine cr.mono ?_; rintro e w1 ⟨A1, d1, rfl, hown1, hbel1⟩; have hO := hOW.next (Kept.of_below hbel1); obtain ⟨c1, c2, c3, f1, f2, f3⟩ := hO.cells; clear hown1 hbel1) | (go_at_call 37; refine (size_dv hO.dv).mono ?_; rintro e w' ⟨rfl, rfl⟩))
      obtain ⟨q1, q2, q3, _⟩ := hO.set3 (.pointer none) (.slice none 0 0) (.int .i64 9)
      refine ⟨_, results_cells3 rfl _ _ w.heap.size (w.heap.size + 1) (w.heap.size + 1 + 1) _ _ _ rfl rfl rfl q1 q2 q3 agg_strip agg_bytess agg_errno, ?_⟩
      exact hO.out hob (by decide)
    · by_cases e2 : (d.secs.length : Int) < first
      · have hob : openBad d first many fin = 9 := by unfold openBad; rw [if_neg (by omega), if_pos (by omega)]
        clear h1 h2 h3
        refine (callsIn_wide (n := 10)).1 ?_
        refine callsIn_of_wp_marks Try.func46 rfl trivial ?_ rfl
        simp only [Try.ntmps46, List.size_toArray, List.length_cons, List.length_nil, Nat.reduceAdd, Nat.reduceSub, Array.replicate_succ, Array.replicate_zero, List.push_toArray, List.append_toArray, List.nil_append, List.cons_append]
        refine wpIn_wide.2 ?_
        go_wp2_with (first | (go_at_call 30; refine cr.mono ?_; rintro e w1 ⟨A1, d1, rfl, hown1, hbel1⟩; have hO := hOW.next (Kept.of_below hbel1); obtain ⟨c1, c2, c3, f1, f2, f3⟩ := hO.cells; clear hown1 hbel1) | (go_at_call 37; refine (size_dv hO.dv).mono ?_; rintro e w' ⟨rfl, rfl⟩))
        obtain ⟨q1, q2, q3, _⟩ := hO.set3 (.pointer none) (.slice none 0 0) (.int .i64 9)
        refine ⟨_, results_cells3 rfl _ _ w.heap.size (w.heap.size + 1) (w.heap.size + 1 + 1) _ _ _ rfl rfl rfl q1 q2 q3 agg_strip agg_bytess agg_errno, ?_⟩
        exact hO.out hob (by decide)
      · by_cases e3 : many < 1
        · have hob : openBad d first many fin = 9 := by unfold openBad; rw [if_neg (by omega), if_pos (by omega)]
          clear h2 h3
          refine (callsIn_wide (n := 10)).1 ?_
          refine callsIn_of_wp_marks Try.func46 rfl trivial ?_ rfl
          simp only [Try.ntmps46, List.size_toArray, List.length_cons, List.length_nil, Nat.reduceAdd, Nat.reduceSub, Array.replicate_succ, Array.replicate_zero, List.push_toArray, List.append_toArray, List.nil_append, List.cons_append]
          refine wpIn_wide.2 ?_
          go_wp2_with (first | (go_at_call 30; refine cr.mono ?_; rintro e w1 ⟨A1, d1, rfl, hown1, hbel1⟩; have hO := hOW.next (Kept.of_below hbel1); obtain ⟨c1, c2, c3, f1, f2, f3⟩ := hO.cells; clear hown1 hbel1) | (go_at_call 37; refine (size_dv hO.dv).mono ?_; rintro e w' ⟨rfl, rfl⟩))
          obtain ⟨q1, q2, q3, _⟩ := hO.set3 (.pointer none) (.slice none 0 0) (.int .i64 9)
          refine ⟨_, results_cells3 rfl _ _ w.heap.size (w.heap.size + 1) (w.heap.size + 1 + 1) _ _ _ rfl rfl rfl q1 q2 q3 agg_strip agg_bytess agg_errno, ?_⟩
          exact hO.out hob (by decide)
        · by_cases e4 : (d.secs.length : Int) - first < many
          · have hob : openBad d first many fin = 9 := by unfold openBad; rw [if_neg (by omega), if_pos (by omega)]
            clear h2 h3
            refine (callsIn_wide (n := 10)).1 ?_
            refine callsIn_of_wp_marks Try.func46 rfl trivial ?_ rfl
            simp only [Try.ntmps46, List.size_toArray, List.length_cons, List.length_nil, Nat.reduceAdd, Nat.reduceSub, Array.replicate_succ, Array.replicate_zero, List.push_toArray, List.append_toArray, List.nil_append, List.cons_append]
            refine wpIn_wide.2 ?_
            go_wp2_with (first | (go_at_call 30; refine cr.mono ?_; rintro e w1 ⟨A1, d1, rfl, hown1, hbel1⟩; have hO := hOW.next (Kept.of_below hbel1); obtain ⟨c1, c2, c3, f1, f2, f3⟩ := hO.cells; clear hown1 hbel1) | (go_at_call 37; refine (size_dv hO.dv).mono ?_; rintro e w' ⟨rfl, rfl⟩))
            obtain ⟨q1, q2, q3, _⟩ := hO.set3 (.pointer none) (.slice none 0 0) (.int .i64 9)
            refine ⟨_, results_cells3 rfl _ _ w.heap.size (w.heap.size + 1) (w.heap.size + 1 + 1) _ _ _ rfl rfl rfl q1 q2 q3 agg_strip agg_bytess agg_errno, ?_⟩
            exact hO.out hob (by decide)
          · by_cases e5 : fin < 0
            · have hob : openBad d first many fin = 2 := by unfold openBad; rw [if_neg (by omega), if_neg (by omega), if_pos (by omega)]
              clear h3
              refine (callsIn_wide (n := 10)).1 ?_
              refine callsIn_of_wp_marks Try.func46 rfl trivial ?_ rfl
              simp only [Try.ntmps46, List.size_toArray, List.length_cons, List.length_nil, Nat.reduceAdd, Nat.reduceSub, Array.replicate_succ, Array.replicate_zero, List.push_toArray, List.append_toArray, List.nil_append, List.cons_append]
              refine wpIn_wide.2 ?_
              go_wp2_with (first | (go_at_call 30; refine cr.mono ?_; rintro e w1 ⟨A1, d1, rfl, hown1, hbel1⟩; have hO := hOW.next (Kept.of_below hbel1); obtain ⟨c1, c2, c3, f1, f2, f3⟩ := hO.cells; clear hown1 hbel1) | (go_at_call 37; refine (size_dv hO.dv).mono ?_; rintro e w' ⟨rfl, rfl⟩))
              obtain ⟨q1, q2, q3, _⟩ := hO.set3 (.pointer none) (.slice none 0 0) (.int .i64 2)
              refine ⟨_, results_cells3 rfl _ _ w.heap.size (w.heap.size + 1) (w.heap.size + 1 + 1) _ _ _ rfl rfl rfl q1 q2 q3 agg_strip agg_bytess agg_errno, ?_⟩
              exact hO.out hob (by decide)
            · by_cases e6 : 128 * many < fin
              · have hob : openBad d first many fin = 2 := by unfold openBad; rw [if_neg (by omega), if_neg (by omega), if_pos (by omega)]
                clear h3
                refine (callsIn_wide (n := 10)).1 ?_
                refine callsIn_of_wp_marks Try.func46 rfl trivial ?_ rfl
                simp only [Try.ntmps46, List.size_toArray, List.length_cons, List.length_nil, Nat.reduceAdd, Nat.reduceSub, Array.replicate_succ, Array.replicate_zero, List.push_toArray, List.append_toArray, List.nil_append, List.cons_append]
                refine wpIn_wide.2 ?_
                go_wp2_with (first | (go_at_call 30; refine cr.mono ?_; rintro e w1 ⟨A1, d1, rfl, hown1, hbel1⟩; have hO := hOW.next (Kept.of_below hbel1); obtain ⟨c1, c2, c3, f1, f2, f3⟩ := hO.cells; clear hown1 hbel1) | (go_at_call 37; refine (size_dv hO.dv).mono ?_; rintro e w' ⟨rfl, rfl⟩))
                obtain ⟨q1, q2, q3, _⟩ := hO.set3 (.pointer none) (.slice none 0 0) (.int .i64 2)
                refine ⟨_, results_cells3 rfl _ _ w.heap.size (w.heap.size + 1) (w.heap.size + 1 + 1) _ _ _ rfl rfl rfl q1 q2 q3 agg_strip agg_bytess agg_errno, ?_⟩
                exact hO.out hob (by decide)
              · have hob : openBad d first many fin = 0 := by unfold openBad; rw [if_neg (by omega), if_neg (by omega), if_neg (by omega)]
                obtain ⟨f, rfl⟩ : ∃ f : Nat, first = f := ⟨first.toNat, by omega⟩
                obtain ⟨m, rfl⟩ : ∃ m : Nat, many = m := ⟨many.toNat, by omega⟩
                obtain ⟨e, rfl⟩ : ∃ e : Nat, fin = e := ⟨fin.toNat, by omega⟩
                exact open_main hD f m e hz (by omega) (by omega) (by omega) hob
  · have hb : (d.at_ 0 != 0) = true := by simpa using hz
    have hob : openBad d first many fin = d.at_ 0 := by unfold openBad; rw [if_pos hz]
    have hO := hOW
    obtain ⟨c1, c2, c3, f1, f2, f3⟩ := hO.cells
    refine (callsIn_wide (n := 10)).1 ?_
    refine callsIn_of_wp_marks Try.func46 rfl trivial ?_ rfl
    simp only [Try.ntmps46, List.size_toArray, List.length_cons, List.length_nil, Nat.reduceAdd, Nat.reduceSub, Array.replicate_succ, Array.replicate_zero, List.push_toArray, List.append_toArray, List.nil_append, List.cons_append]
    refine wpIn_wide.2 ?_
    go_wp2_with (go_at_call 30; refine (read_bad hO.dv 0 hz).mono ?_; rintro e w' ⟨rfl, rfl⟩)
    obtain ⟨q1, q2, q3, _⟩ := hO.set3 (.pointer none) (.slice none 0 0) (.int .i64 (d.at_ 0))
    refine ⟨_, results_cells3 rfl _ _ w.heap.size (w.heap.size + 1) (w.heap.size + 1 + 1) _ _ _ rfl rfl rfl q1 q2 q3 agg_strip agg_bytess agg_errno, ?_⟩
    exact hO.out hob hz
end Go.Proofs.Ytbnflbkaogpnbaa
