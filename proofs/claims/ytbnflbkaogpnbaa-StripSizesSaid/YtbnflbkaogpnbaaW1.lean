/- The midst of a Write: the walk. -/
import Derived.Test.YtbnflbkaogpnbaaW0
namespace Go.Proofs.Ytbnflbkaogpnbaa
open Go.RowKit Go.Maps
open Go.ChangeMaps (setBlock heap_setBlock_same heap_setBlock_other)

theorem Kept.drew (F : List Nat) (w : World) : Kept F w w.drew := ⟨rfl, rfl, rfl, Nat.le_refl _, fun _ _ _ => rfl⟩
theorem Kept.setBlock {F : List Nat} {w : World} {M : Nat} {es : Array MapEntry} {clk : Nat} (hm : w.heap[M]? = some (.map es clk)) (hF : M ∈ F) (o : Obj) : Kept F w (setBlock w M o) :=
  ⟨rfl, rfl, rfl, by simp [ChangeMaps.setBlock], fun k _ hn => heap_setBlock_other hm o (fun e => hn (e ▸ hF))⟩

theorem DevAt.drew {w : World} {a S M : Nat} {K : Option Nat} {d : Dev} (h : DevAt w a S M K d) : DevAt w.drew a S M K d := h.kept (Kept.drew [] w) (by simp) (by simp) (by simp) (by simp)

/-- A sector is written. -/
theorem DevAt.put {w : World} {a S M : Nat} {K : Option Nat} {d : Dev} (h : DevAt w a S M K d) {k : Nat} (hk : k < d.secs.length) {b : Blk} (hb : b.length = 128) :
    DevAt (w.setCells S (k * 128) (u8vs b)) a S M K { d with secs := d.secs.set k b } := by
  obtain ⟨n1, n2, n3, n4, n5, n6⟩ := h.ne
  obtain ⟨l1, l2, l3, l4⟩ := h.lt
  obtain ⟨kv, h1, h2, hr⟩ := h.head
  obtain ⟨es, clk, h3, h4, h5⟩ := h.sure
  have hk' := setCells_kept S (u8vs b) (k * 128) w
  have hl : (u8vs b).length = 128 := by simp [u8vs, hb]
  have hwf : ({ d with secs := d.secs.set k b } : Dev).Wf := { h.wf with
    one := by simpa using h.wf.one
    many := by simpa using h.wf.many
    size := fun c hc => by
      rcases List.mem_or_eq_of_mem_set hc with h1 | h1
      · exact h.wf.size c h1
      · rw [h1]; exact hb
    keyIn := by simpa using h.wf.keyIn }
  refine ⟨hwf, ⟨kv, ?_, h2, ?_⟩, ?_, ⟨es, clk, (hk'.block M l3 (by simpa using fun e => n3 e.symm)).trans h3, h4, h5⟩⟩
  · rw [hk'.block a l1 (by simpa using n1), h1]
    simp
  · obtain ⟨r1, r2⟩ := hr
    refine ⟨r1, ?_⟩
    rcases r2 with r2 | ⟨g, cap, cur, rfl, hb', hg, r3⟩
    · exact .inl r2
    · have hgK : K = some g := by rw [← h2]; rfl
      refine .inr ⟨g, cap, cur, rfl, hb', (hk'.block g (l4 g hgK) ?_).trans hg, r3⟩
      simp only [List.mem_singleton]
      rintro rfl
      exact n5 hgK
  · rw [setCells_heap S 108 (u8vs b) (k * 128) w _ h.secs (by rw [length_flat _ h.wf.size, hl]; omega), flat_set _ h.wf.size k hk b hb]

/-- The map is written. -/
theorem DevAt.putSure {w : World} {a S M : Nat} {K : Option Nat} {d : Dev} (h : DevAt w a S M K d) {es : Array MapEntry} {clk : Nat} {s : List (Nat × Blk)} (hwf : ({ d with sure := s } : Dev).Wf)
    (hs : sureOf es = s.map fun p => (i64v p.1, blkV p.2)) (hst : MapKept.Stamped es clk) : DevAt (setBlock w M (.map es clk)) a S M K { d with sure := s } := by
  obtain ⟨n1, n2, n3, n4, n5, n6⟩ := h.ne
  obtain ⟨l1, l2, l3, l4⟩ := h.lt
  obtain ⟨kv, h1, h2, hr⟩ := h.head
  obtain ⟨es0, clk0, h3, h4, h5⟩ := h.sure
  have hk' := Kept.setBlock (F := [M]) h3 (by simp) (.map es clk)
  refine ⟨hwf, ⟨kv, ?_, h2, ?_⟩, ?_, ⟨es, clk, heap_setBlock_same h3 _, hs, hst⟩⟩
  · rw [hk'.block a l1 (by simpa using n2), h1]
  · obtain ⟨r1, r2⟩ := hr
    refine ⟨r1, ?_⟩
    rcases r2 with r2 | ⟨g, cap, cur, rfl, hb', hg, r3⟩
    · exact .inl r2
    · have hgK : K = some g := by rw [← h2]; rfl
      refine .inr ⟨g, cap, cur, rfl, hb', (hk'.block g (l4 g hgK) ?_).trans hg, r3⟩
      simp only [List.mem_singleton]
      rintro rfl
      exact n6 hgK
  · rw [hk'.block S l2 (by simpa using n3)]
    exact h.secs

/-- What the midst of a Write does. -/
def MidPost (w : World) (a S M : Nat) (K : Option Nat) (d : Dev) (e : Ending) (w' : World) : Prop := e = .returned (.tuple #[]) ∧ DevAt w' a S M K d ∧ Kept [S, M] w w'

/-- The store of a sector that is told of and forgotten. -/
theorem forgets (w : World) (v : Blk) (hv : (u8vs v).length = 128) :
    ∃ W1, (storeCells ⟨w.heap.size, 0, none⟩ (u8vs v)).run Try.prog (w.alloc (.cells Try.zeroCells108 108)).drew = .ok () W1 ∧ Kept [] w W1 := by
  have hz : (u8vs zeros).toArray = Try.zeroCells108 := by
    have := zero_cells
    simp only [blkV, Value.agg.injEq] at this
    exact this.symm
  have hh : (w.alloc (.cells Try.zeroCells108 108)).drew.heap[w.heap.size]? = some (.cells Try.zeroCells108 108 (0, 0)) := heap_alloc_new w _
  have hsz : Try.zeroCells108.size = 128 := by rw [← hz]; simp [u8vs, length_zeros]
  have ht : ∀ j, j < (u8vs v).length → ((w.alloc (.cells Try.zeroCells108 108)).drew.cell? ⟨w.heap.size, 0 + 0 + j, none⟩).isSome = true := by
    intro j hj
    rw [blk_cell hh, Array.getElem?_eq_getElem (by omega)]
    rfl
  have := run_storeCells_cells (P := Try.prog) w.heap.size 0 (u8vs v) 0 (w.alloc (.cells Try.zeroCells108 108)).drew ht (fun j _ => blk_frozen hh _) (one_u8 v)
  refine ⟨_, this, ?_⟩
  exact ((Kept.alloc [] w _).trans (Kept.drew [] _)).trans' (setCells_kept w.heap.size (u8vs v) (0 + 0) _) (by simp)

theorem loads_of {w W : World} {a S M : Nat} {K : Option Nat} {d : Dev} (h : DevAt w a S M K d) (hW : W.heap = w.heap ∨ ∃ o, W.heap = (w.alloc o).heap) : DevAt W a S M K d := by
  obtain ⟨l1, l2, l3, l4⟩ := h.lt
  have hb : ∀ j, j < w.heap.size → W.heap[j]? = w.heap[j]? := by
    intro j hj
    rcases hW with e | ⟨o, e⟩
    · rw [e]
    · rw [e]; exact Below.heap_alloc w o j hj
  obtain ⟨kv, h1, h2, hr⟩ := h.head
  obtain ⟨es, clk, h3, h4⟩ := h.sure
  refine ⟨h.wf, ⟨kv, (hb a l1).trans h1, h2, ?_⟩, (hb S l2).trans h.secs, ⟨es, clk, (hb M l3).trans h3, h4⟩⟩
  obtain ⟨r1, r2⟩ := hr
  refine ⟨r1, ?_⟩
  rcases r2 with r2 | ⟨g, cap, cur, rfl, hb', hg, r3⟩
  · exact .inl r2
  · have hgK : K = some g := by rw [← h2]; rfl
    exact .inr ⟨g, cap, cur, rfl, hb', (hb g (l4 g hgK)).trans hg, r3⟩
end Go.Proofs.Ytbnflbkaogpnbaa
