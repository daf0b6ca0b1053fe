/- A device in memory, and the leaves of its methods. -/
import Derived.Test.YtbnflbkaogpnbaaB0
import Derived.Test.YtbnflbkaogpnbaaM0
namespace Go.Proofs.Ytbnflbkaogpnbaa
open Go.RowKit

/-- A sector's bytes as cells. -/
def u8vs (l : List UInt8) : List Value := l.map u8v

/-- The cells of all sectors. -/
def flat (s : List Blk) : Array Value := (s.flatMap u8vs).toArray

/-- The entries of the map of what was sure. -/
def sureOf (es : Array MapEntry) : List (Value × Value) := es.toList.map fun e => (e.key, e.val)

/-- In w, at block a, is the device d; S its sectors, M its map, K the block of what is to be kept. -/
structure DevAt (w : World) (a S M : Nat) (K : Option Nat) (d : Dev) : Prop where
  wf : d.Wf
  head : ∃ kv, w.heap[a]? = some (.cells #[.slice (some ⟨S, 0, none⟩) d.secs.length d.secs.length, .map (some M), .int .i64 d.fail, kv, .int .i64 d.till, .int .i64 d.works, .bool d.dead] 61 (0, 0)) ∧
    kv.ownBlock = K ∧ w.ownsRow 0 3 1 kv d.keep.length (d.keep.map i64v)
  secs : w.heap[S]? = some (.cells (flat d.secs) 108 (0, 0))
  sure : ∃ es clk, w.heap[M]? = some (.map es clk) ∧ sureOf es = (d.sure.map fun p => (i64v p.1, .agg (u8vs p.2).toArray)) ∧ MapKept.Stamped es clk

/-- The blocks of a device. -/
def Dv (w : World) (a : Nat) (fp : List Nat) (d : Dev) : Prop := ∃ S M K, fp = a :: S :: M :: K.toList ∧ DevAt w a S M K d

/-- From w to w', where the blocks fp have become fp'. -/
structure Turn (fp fp' : List Nat) (w w' : World) : Prop where
  kept : Kept fp w w'
  new : ∀ j ∈ fp', j ∈ fp ∨ w.heap.size ≤ j

theorem World.lt_of_heap {w : World} {b : Nat} {o : Obj} (h : w.heap[b]? = some o) : b < w.heap.size := (Array.getElem?_eq_some_iff.1 h).1

theorem DevAt.lt {w : World} {a S M : Nat} {K : Option Nat} {d : Dev} (h : DevAt w a S M K d) : a < w.heap.size ∧ S < w.heap.size ∧ M < w.heap.size ∧ ∀ k, K = some k → k < w.heap.size := by
  obtain ⟨kv, h1, hK, hr⟩ := h.head
  obtain ⟨es, clk, h3, _⟩ := h.sure
  exact ⟨World.lt_of_heap h1, World.lt_of_heap h.secs, World.lt_of_heap h3, fun k hk => (hr.lt k (hK.trans hk)).2⟩

theorem DevAt.kept {w w' : World} {a S M : Nat} {K : Option Nat} {d : Dev} {F : List Nat} (h : DevAt w a S M K d) (hk : Kept F w w') (ha : a ∉ F) (hS : S ∉ F) (hM : M ∉ F) (hK : ∀ k, K = some k → k ∉ F) : DevAt w' a S M K d := by
  obtain ⟨l1, l2, l3, l4⟩ := h.lt
  obtain ⟨kv, h1, h2, hr⟩ := h.head
  obtain ⟨es, clk, h3, h4⟩ := h.sure
  refine ⟨h.wf, ⟨kv, (hk.block a l1 ha).trans h1, h2, ?_⟩, (hk.block S l2 hS).trans h.secs, ⟨es, clk, (hk.block M l3 hM).trans h3, h4⟩⟩
  obtain ⟨r1, r2⟩ := hr
  refine ⟨r1, ?_⟩
  rcases r2 with r2 | ⟨g, cap, cur, rfl, hb, hg, r3⟩
  · exact .inl r2
  · have hgK : K = some g := by rw [← h2]; rfl
    exact .inr ⟨g, cap, cur, rfl, hb, (hk.block g (l4 g hgK) (hK g hgK)).trans hg, r3⟩

theorem Dv.kept {w w' : World} {a : Nat} {fp : List Nat} {d : Dev} {F : List Nat} (h : Dv w a fp d) (hk : Kept F w w') (hd : ∀ j ∈ fp, j ∉ F) : Dv w' a fp d := by
  obtain ⟨S, M, K, rfl, h⟩ := h
  exact ⟨S, M, K, rfl, h.kept hk (hd _ (by simp)) (hd _ (by simp)) (hd _ (by simp)) (fun k e => hd _ (by simp [e]))⟩

theorem Dv.lt {w : World} {a : Nat} {fp : List Nat} {d : Dev} (h : Dv w a fp d) : ∀ j ∈ fp, j < w.heap.size := by
  obtain ⟨S, M, K, rfl, h⟩ := h
  obtain ⟨l1, l2, l3, l4⟩ := h.lt
  intro j hj
  simp only [List.mem_cons, Option.mem_toList] at hj
  rcases hj with rfl | rfl | rfl | hj
  · exact l1
  · exact l2
  · exact l3
  · exact l4 j hj

theorem Dv.wf {w : World} {a : Nat} {fp : List Nat} {d : Dev} (h : Dv w a fp d) : d.Wf := by
  obtain ⟨S, M, K, rfl, h⟩ := h
  exact h.wf

/-- A block read whole: its cells. -/
theorem blk_cell {w : World} {b : Nat} {c : Array Value} {t : TypeId} {fz : Nat × Nat} (h : w.heap[b]? = some (.cells c t fz)) (i : Nat) : w.cell? ⟨b, i, none⟩ = c[i]? := by
  simp [World.cell?, h]
theorem blk_frozen {w : World} {b : Nat} {c : Array Value} {t : TypeId} (h : w.heap[b]? = some (.cells c t (0, 0))) (i : Nat) : w.frozen? ⟨b, i, none⟩ = false := by
  simp [World.frozen?, h]

theorem length_flat : ∀ (s : List Blk), (∀ b ∈ s, b.length = 128) → (flat s).size = s.length * 128 := by
  intro s h
  simp only [flat, List.size_toArray]
  induction s with
  | nil => rfl
  | cons b r ih =>
    rw [List.flatMap_cons, List.length_append, ih (fun c hc => h c (List.mem_cons_of_mem _ hc)), u8vs, List.length_map, h b List.mem_cons_self, List.length_cons]
    omega

theorem info_block : (Try.prog.info? 108).map (fun i => (i.zero, i.size, i.bytes)) = some (some (.agg (u8vs zeros).toArray), 128, 128) := by kernel_rfl

theorem made_flat (n : Nat) : madeCells (u8vs zeros).toArray (n * 128) = flat (List.replicate n zeros) := by
  apply Array.ext_getElem?
  intro j
  have hl : (u8vs zeros).length = 128 := by simp [u8vs, length_zeros]
  have hrep : ∀ m, (List.replicate m zeros).flatMap u8vs = List.replicate (m * 128) (u8v 0) := by
    intro m
    induction m with
    | zero => rfl
    | succ m ih =>
      rw [List.replicate_succ, List.flatMap_cons, ih]
      have : u8vs zeros = List.replicate 128 (u8v 0) := by simp [u8vs, zeros]
      rw [this, List.replicate_append_replicate]
      congr 1
      omega
  unfold flat
  rw [hrep]
  by_cases hj : j < n * 128
  · simp only [madeCells, List.size_toArray, hl, Array.getElem?_map, List.getElem?_toArray, List.getElem?_replicate, hj, if_true, Array.getElem?_range, Option.map_some]
    have hm : j % 128 < (u8vs zeros).length := by rw [hl]; omega
    rw [getElem!_pos (u8vs zeros).toArray (j % 128) (by simpa using hm)]
    simp only [u8vs, zeros, List.getElem_toArray, List.getElem_map, List.getElem_replicate]
  · simp [madeCells, hj]

set_option maxHeartbeats 400000 in
theorem new_bad (n : Int) (w : World) (h : n < 1 ∨ 8192 < n) :
    Calls Try.prog 21 #[.int .i64 n] w fun e w' => e = .returned (.tuple #[.pointer none, .int .i64 2]) ∧ w' = w := by
  by_cases h1 : n < 1
  · go_enter Try.func21, Try.ntmps21
    go_wp2
    go_ret2
    exact ⟨rfl, rfl⟩
  · have h2 : 8192 < n := by omega
    go_enter Try.func21, Try.ntmps21
    go_wp2
    go_ret2
    exact ⟨rfl, rfl⟩

/-- What New does. -/
def NewPost (w : World) (n : Nat) (e : Ending) (w' : World) : Prop :=
  ∃ a fp, e = .returned (.tuple #[.pointer (some ⟨a, 0, none⟩), .int .i64 0]) ∧ Dv w' a fp (Dev.new n) ∧ Kept [] w w' ∧ ∀ j ∈ fp, w.heap.size ≤ j

set_option maxHeartbeats 400000 in
theorem new_any (n : Nat) (w : World) (h1 : 1 ≤ n) (h2 : n ≤ 8192) :
    Calls Try.prog 21 #[.int .i64 n] w (NewPost w n) := by
  obtain ⟨i0, hi, hz0, hz1, hz2⟩ := info_parts info_block
  have hmk := fun wx : World => run_make (P := Try.prog) wx 58 108 i0 _ Try.underlying58 hi hz0 .i64 .i64 (n : Int) (n : Int) (by omega) (Int.le_refl _) (by rw [hz2]; omega) (by omega)
  have hmm := @run_makeMap Try.prog
  simp only [Int.toNat_natCast, hz1] at hmk
  have h3 : ¬ (n : Int) < 1 := by omega
  have H1 := Lib.hid h1; have H2 := Lib.hid h2
  have h4 : ¬ 8192 < (n : Int) := by omega
  clear h1 h2
  go_enter Try.func21, Try.ntmps21
  go_wp2
  go_ret2
  refine ⟨w.heap.size + 1 + 1, [w.heap.size + 1 + 1, w.heap.size, w.heap.size + 1], rfl, ⟨w.heap.size, w.heap.size + 1, .none, rfl, ?_⟩, (((Kept.alloc [] w _).trans (Kept.alloc [] _ _)).trans (Kept.alloc [] _ _)), by simp; omega⟩
  refine ⟨Dev.wf_new H1.out H2.out, ⟨.slice .none 0 0, ?_, rfl, World.ownsRow_nil _ _ _ _⟩, ?_, ⟨#[], 0, ?_, rfl, MapKept.stamped_empty 0⟩⟩
  · have h := heap_alloc_new ((w.alloc (.cells (madeCells (u8vs zeros).toArray (n * 128)) 108)).alloc (.map #[] 0)) (.cells #[.slice (some ⟨w.heap.size, 0, .none⟩) n n, .map (some (w.heap.size + 1)), .int .i64 (-1), .slice .none 0 0, .int .i64 (-1), .int .i64 0, .bool false] 61)
    simp only [World.size_alloc] at h
    rw [h]
    simp [Dev.new]
  · rw [Below.heap_alloc _ _ _ (by simp; omega), Below.heap_alloc _ _ _ (by simp), heap_alloc_new]
    simp [Dev.new, ← made_flat]
  · rw [Below.heap_alloc _ _ _ (by simp)]
    have h := heap_alloc_new (w.alloc (.cells (madeCells (u8vs zeros).toArray (n * 128)) 108)) (.map #[] 0)
    simp only [World.size_alloc] at h
    exact h
end Go.Proofs.Ytbnflbkaogpnbaa
