/- What a deed does to a device in memory; Boot, Refuse; bytes.Clone, slices.Clone; Fail; Read. -/
import Derived.Test.YtbnflbkaogpnbaaD1
namespace Go.Proofs.Ytbnflbkaogpnbaa
open Go.RowKit

/-- A deed that answers an error number. -/
def DevPost (w : World) (a S M : Nat) (K : Option Nat) (r : Dev × Int) (e : Ending) (w' : World) : Prop :=
  e = .returned (.int .i64 r.2) ∧ ∃ K', DevAt w' a S M K' r.1 ∧ Kept [a, S, M] w w' ∧ (∀ k, K' = some k → K = some k ∨ w.heap.size ≤ k)

theorem heap_set {w : World} {b : Nat} {c : Array Value} {t : TypeId} {fz : Nat × Nat} (h : w.heap[b]? = some (.cells c t fz)) (i : Nat) (v : Value) :
    (w.setCell ⟨b, i, none⟩ v).heap[b]? = some (.cells (c.setIfInBounds i v) t fz) := by
  simp [World.setCell, Array.getElem?_modify, h]

theorem DevAt.ne {w : World} {a S M : Nat} {K : Option Nat} {d : Dev} (h : DevAt w a S M K d) : a ≠ S ∧ a ≠ M ∧ S ≠ M ∧ K ≠ some a ∧ K ≠ some S ∧ K ≠ some M := by
  obtain ⟨kv, h1, hK, hr⟩ := h.head
  have h2 := h.secs
  obtain ⟨es, clk, h3, _⟩ := h.sure
  have hk : ∀ k, K = some k → ∃ cur, w.heap[k]? = some (.cells cur 3 (0, 0)) := by
    intro k e
    rcases hr.2 with ⟨rfl, _⟩ | ⟨g, cap, cur, rfl, _, hg, _⟩
    · rw [e] at hK; cases hK
    · rw [e] at hK
      simp only [Value.ownBlock, Option.some.injEq] at hK
      exact ⟨cur, hK ▸ hg⟩
  refine ⟨?_, ?_, ?_, ?_, ?_, ?_⟩
  · rintro rfl; rw [h1] at h2; injection h2 with h2; injection h2 with _ h2; exact absurd h2 (by decide)
  · rintro rfl; rw [h1] at h3; cases h3
  · rintro rfl; rw [h2] at h3; cases h3
  · intro e; obtain ⟨cur, hc⟩ := hk _ e; rw [h1] at hc; injection hc with hc; injection hc with _ hc; exact absurd hc (by decide)
  · intro e; obtain ⟨cur, hc⟩ := hk _ e; rw [h2] at hc; injection hc with hc; injection hc with _ hc; exact absurd hc (by decide)
  · intro e; obtain ⟨cur, hc⟩ := hk _ e; rw [h3] at hc; cases hc

/-- The head is written anew; what it leads to stays. -/
theorem DevAt.rehead {w w' : World} {a S M : Nat} {K : Option Nat} {d d' : Dev} (h : DevAt w a S M K d) (hk : Kept [a] w w') (hwf : d'.Wf) (hs : d'.secs = d.secs) (hsu : d'.sure = d.sure)
    (hh : ∀ kv, w.heap[a]? = some (.cells #[.slice (some ⟨S, 0, none⟩) d.secs.length d.secs.length, .map (some M), .int .i64 d.fail, kv, .int .i64 d.till, .int .i64 d.works, .bool d.dead] 61 (0, 0)) →
      w'.heap[a]? = some (.cells #[.slice (some ⟨S, 0, none⟩) d.secs.length d.secs.length, .map (some M), .int .i64 d'.fail, kv, .int .i64 d'.till, .int .i64 d'.works, .bool d'.dead] 61 (0, 0)))
    (hkp : d'.keep = d.keep) : DevAt w' a S M K d' := by
  obtain ⟨n1, n2, n3, n4, n5, n6⟩ := h.ne
  obtain ⟨l1, l2, l3, l4⟩ := h.lt
  obtain ⟨kv, h1, h2, hr⟩ := h.head
  obtain ⟨es, clk, h3, h4⟩ := h.sure
  have hnn : ∀ k, K = some k → k ∉ [a] := fun k e hm => by
    simp only [List.mem_singleton] at hm
    subst hm
    exact n4 e
  refine ⟨hwf, ⟨kv, by rw [hs]; exact hh kv h1, h2, ?_⟩, by rw [hs]; exact (hk.block S l2 (by simpa using fun e => n1 e.symm)).trans h.secs, ⟨es, clk, (hk.block M l3 (by simpa using fun e => n2 e.symm)).trans h3, by rw [hsu]; exact h4⟩⟩
  rw [hkp]
  obtain ⟨r1, r2⟩ := hr
  refine ⟨r1, ?_⟩
  rcases r2 with r2 | ⟨g, cap, cur, rfl, hb, hg, r3⟩
  · exact .inl r2
  · have hgK : K = some g := by rw [← h2]; rfl
    exact .inr ⟨g, cap, cur, rfl, hb, (hk.block g (l4 g hgK) (hnn g hgK)).trans hg, r3⟩

theorem DevPost.of_rehead {w w' : World} {a S M : Nat} {K : Option Nat} {d' : Dev} {n : Int} (h : DevAt w' a S M K d') (hk : Kept [a] w w') : DevPost w a S M K (d', n) (.returned (.int .i64 n)) w' :=
  ⟨rfl, K, h, hk.mono (fun i hi => .inl (by simp at hi; simp [hi])), fun _ e => .inl e⟩

theorem DevPost.same {w : World} {a S M : Nat} {K : Option Nat} {d : Dev} {n : Int} (h : DevAt w a S M K d) : DevPost w a S M K (d, n) (.returned (.int .i64 n)) w :=
  ⟨rfl, K, h, Kept.refl _ _, fun _ e => .inl e⟩

set_option maxHeartbeats 400000 in
theorem boot_any {w : World} {a S M : Nat} {K : Option Nat} {d : Dev} (h : DevAt w a S M K d) :
    Calls Try.prog 27 #[.pointer (some ⟨a, 0, none⟩)] w (DevPost w a S M K (d.boot, 0)) := by
  obtain ⟨c0, c1, c2, c4, c5, c6, cf⟩ := h.cells
  clear c0 c1 c2 c4 c5
  go_enter Try.func27, Try.ntmps27
  go_wp2_with (go_at_call 73; refine (none_any h).mono ?_; rintro e w' ⟨rfl, rfl⟩)
  go_ret
  refine DevPost.of_rehead (h.rehead (Kept.setCell (by simp) _) { h.wf with } rfl rfl (fun kv hh => ?_) rfl) (Kept.setCell (by simp) _)
  rw [heap_set hh]
  rfl

set_option maxHeartbeats 400000 in
theorem refuse_any {w : World} {a S M : Nat} {K : Option Nat} {d : Dev} (hD : DevAt w a S M K d) (n : Int) (h0 : -9223372036854775808 ≤ n) (h1 : n ≤ 9223372036854775807) :
    Calls Try.prog 32 #[.pointer (some ⟨a, 0, none⟩), .int .i64 n] w (DevPost w a S M K (d.refuse n)) := by
  obtain ⟨c0, c1, c2, c4, c5, c6, cf⟩ := hD.cells
  have hw := wrong_any hD
  have hd : d.dead = true ∨ d.dead = false := by cases d.dead <;> simp
  clear c0 c1 c2 c5 c6
  rcases hd with hd | hd
  · have e : d.refuse n = (d, 100) := by simp [Dev.refuse, hd]
    rw [e]; rw [hd] at hw
    have HD := Lib.hid hd; clear hd e
    go_enter Try.func32, Try.ntmps32
    go_wp2_with (go_at_call 65; refine hw.mono ?_; rintro e w' ⟨rfl, rfl⟩)
    go_ret
    exact DevPost.same hD
  · have e : d.refuse n = ({ d with till := max n (-1) }, 0) := by simp [Dev.refuse, hd]
    rw [e]; rw [hd] at hw
    have HD := Lib.hid hd; clear hd e
    have hwf : ({ d with till := max n (-1) } : Dev).Wf := { hD.wf with till0 := by simp only; omega, till1 := by simp only; omega }
    go_enter Try.func32, Try.ntmps32
    go_wp2_with (go_at_call 65; refine hw.mono ?_; rintro e w' ⟨rfl, rfl⟩)
    all_goals
      go_ret
      refine DevPost.of_rehead (hD.rehead (Kept.setCell (by simp) _) hwf rfl rfl (fun kv hh => ?_) rfl) (Kept.setCell (by simp) _)
      rw [heap_set hh]
      first | (have e : max n (-1) = -1 := by omega
               simp only [e]; rfl) | (have e : max n (-1) = n := by omega
                                      simp only [e]; rfl)

/-- A slice that is owned, as a slice that reads. -/
theorem SlAt.of_own {w : World} {base : Nat} {t : TypeId} {v : Value} {n : Nat} {xs : List Value} (h : w.ownsRow base t 1 v n xs) : ∃ A c, v = .slice A n c ∧ SlAt w A n c xs ∧ (∀ a, A = some a → v.ownBlock = some a.block ∧ base ≤ a.block) := by
  obtain ⟨h1, h2⟩ := h
  rcases h2 with ⟨rfl, rfl⟩ | ⟨g, cap, cur, rfl, hb, hg, hnc, hcm, hs, ht⟩
  · exact ⟨none, 0, rfl, ⟨by simpa using h1, Nat.le_refl _, by unfold maxLen; omega, fun h => by omega⟩, fun a e => by cases e⟩
  · refine ⟨some ⟨g, 0, none⟩, cap, rfl, ⟨by simpa using h1, hnc, hcm, fun hn => ⟨g, 0, rfl, World.lt_of_heap hg, fun i hi => ?_⟩⟩, fun a e => by cases e; exact ⟨rfl, hb⟩⟩
    rw [blk_cell hg, ← ht, Nat.zero_add, List.getElem?_take, if_pos (by omega), Array.getElem?_toList]

/-- What a copy of a slice does: nil of nil; else a new row. -/
def ClonePost (w : World) (t : TypeId) (n : Nat) (xs : List Value) (e : Ending) (w' : World) : Prop :=
  ∃ A c, e = .returned (.slice A n c) ∧ w'.ownsRow w.heap.size t 1 (.slice A n c) n xs ∧ Below w.heap.size w w'

theorem ClonePost.mk {w w' : World} {t : TypeId} {n : Nat} {xs : List Value} {v : Value} (h : w'.ownsRow w.heap.size t 1 v n xs) (hb : Below w.heap.size w w') : ClonePost w t n xs (.returned v) w' := by
  obtain ⟨A, c, rfl, _⟩ := SlAt.of_own h
  exact ⟨A, c, rfl, h, hb⟩

theorem info_u8 : (Try.prog.info? 5).map (fun i => (i.zero, i.size, i.bytes)) = some (some (.int .u8 0), 1, 1) := by kernel_rfl
theorem info_int : (Try.prog.info? 3).map (fun i => (i.zero, i.size, i.bytes)) = some (some (.int .i64 0), 1, 8) := by kernel_rfl

theorem add_block (b o i : Nat) : (⟨b, o, none⟩ : Addr).add i = ⟨b, o + i, none⟩ := by
  unfold Addr.add
  split
  · rename_i h; subst h; rfl
  · rfl

/-- The cells of a slice, by address. -/
theorem SlAt.news {w : World} {ad : Addr} {n c : Nat} {xs : List Value} (h : SlAt w (some ad) n c xs) : ∀ j u, xs[j]? = some u → w.cell? (ad.add j) = some u := by
  intro j u hj
  have hl := (List.getElem?_eq_some_iff.1 hj).1
  rw [h.len] at hl
  obtain ⟨b, o, e, _, hc⟩ := h.cells (by omega)
  cases e
  rw [add_block]
  exact (hc j hl).trans hj

theorem one_u8 (l : List UInt8) : ∀ u ∈ u8vs l, u.oneCell' = true := by
  intro u hu
  simp only [u8vs, List.mem_map] at hu
  obtain ⟨b, _, rfl⟩ := hu
  rfl

theorem one_i64 (l : List Int) : ∀ u ∈ l.map i64v, u.oneCell' = true := by
  intro u hu
  simp only [List.mem_map] at hu
  obtain ⟨b, _, rfl⟩ := hu
  rfl

theorem SlAt.none_zero {w : World} {n c : Nat} {xs : List Value} (h : SlAt w none n c xs) : n = 0 ∧ xs = [] := by
  have hn : n = 0 := by
    rcases Nat.eq_zero_or_pos n with h0 | h0
    · exact h0
    · obtain ⟨_, _, e, _⟩ := h.cells h0; cases e
  exact ⟨hn, List.eq_nil_of_length_eq_zero (h.len.trans hn)⟩

set_option maxHeartbeats 400000 in
theorem bytesClone_any (w : World) (A : Option Addr) (n c : Nat) (xs : List UInt8) (hx : SlAt w A n c (u8vs xs)) (hn : n ≤ 140737488355328) :
    Calls Try.prog 74 #[.slice A n c] w (ClonePost w 5 n (u8vs xs)) := by
  have hq := fun wx => Lib.run_eql_slice_nil (P := Try.prog) wx 34 5 A n c 0 0 Try.underlying34
  obtain ⟨i0, hi, hz0, hz1, hz2⟩ := info_parts info_u8
  rcases A with _ | ad
  · obtain ⟨rfl, h0⟩ := hx.none_zero
    rw [h0]
    clear hn
    go_enter Try.func74, Try.ntmps74
    go_wp2
    go_ret
    exact ClonePost.mk (World.ownsRow_nil _ _ _ _) (Below.refl _ _)
  · have hb : (w.alloc (.cells #[] 5)).ownsRow w.heap.size 5 1 (.slice (some ⟨w.heap.size, 0, none⟩) 0 0) 0 [] := World.ownsRow_lit w #[] 0 (Nat.le_refl _) (by unfold maxLen; omega) rfl
    have hx' := hx.kept (Kept.alloc [] w (.cells #[] 5)) (by simp)
    have s1 : (u8vs xs).length = n * 1 := by rw [hx.len]; omega
    have s4 : 0 + n ≤ maxLen := by unfold maxLen; omega
    have s5 : (0 + n) * 1 ≤ 140737488355328 := by omega
    have s6 : w.heap.size ≤ (w.alloc (.cells #[] 5)).heap.size := by simp
    have S1 := Lib.hid s1; clear s1
    go_enter Try.func74, Try.ntmps74
    go_wp2_with (at_builtin; refine wpList_append_own _ rfl _ _ 34 rfl w.heap.size 5 i0 (.int .u8 0) 1 1 Try.underlying34 hi hz0 hz1 hz2 rfl (by decide) _ _ _ rfl hb ad n c (u8vs xs) rfl S1.out hx'.news (one_u8 xs) s4 s5 s6 ?_; intro v' w1 hown' hgrow _)
    go_ret
    simp only [Nat.zero_add, List.nil_append] at hown'
    exact ClonePost.mk hown' (((Below.refl _ w).alloc (Nat.le_refl _) _).grown hgrow (by simp) (fun k e => by cases e; exact Nat.le_refl _))

set_option maxHeartbeats 400000 in
theorem intsClone_any (w : World) (A : Option Addr) (n c : Nat) (xs : List Int) (hx : SlAt w A n c (xs.map i64v)) (hn : n * 8 ≤ 140737488355328) :
    Calls Try.prog 75 #[.slice A n c] w (ClonePost w 3 n (xs.map i64v)) := by
  have hq := fun wx => Lib.run_eql_slice_nil (P := Try.prog) wx 23 3 A n c 0 0 Try.underlying23
  obtain ⟨i0, hi, hz0, hz1, hz2⟩ := info_parts info_int
  rcases A with _ | ad
  · obtain ⟨rfl, h0⟩ := hx.none_zero
    rw [h0]
    clear hn
    go_enter Try.func75, Try.ntmps75
    go_wp2
    go_ret
    exact ClonePost.mk (World.ownsRow_nil _ _ _ _) (Below.refl _ _)
  · have hb : (w.alloc (.cells #[] 3)).ownsRow w.heap.size 3 1 (.slice (some ⟨w.heap.size, 0, none⟩) 0 0) 0 [] := World.ownsRow_lit w #[] 0 (Nat.le_refl _) (by unfold maxLen; omega) rfl
    have hx' := hx.kept (Kept.alloc [] w (.cells #[] 3)) (by simp)
    have s1 : (xs.map i64v).length = n * 1 := by rw [hx.len]; omega
    have s4 : 0 + n ≤ maxLen := by unfold maxLen; omega
    have s5 : (0 + n) * 8 ≤ 140737488355328 := by omega
    have s6 : w.heap.size ≤ (w.alloc (.cells #[] 3)).heap.size := by simp
    have S1 := Lib.hid s1; clear s1
    go_enter Try.func75, Try.ntmps75
    go_wp2_with (at_builtin; refine wpList_append_own _ rfl _ _ 23 rfl w.heap.size 3 i0 (.int .i64 0) 1 8 Try.underlying23 hi hz0 hz1 hz2 rfl (by decide) _ _ _ rfl hb ad n c (xs.map i64v) rfl S1.out hx'.news (one_i64 xs) s4 s5 s6 ?_; intro v' w1 hown' hgrow _)
    go_ret
    simp only [Nat.zero_add, List.nil_append] at hown'
    exact ClonePost.mk hown' (((Below.refl _ w).alloc (Nat.le_refl _) _).grown hgrow (by simp) (fun k e => by cases e; exact Nat.le_refl _))

end Go.Proofs.Ytbnflbkaogpnbaa
