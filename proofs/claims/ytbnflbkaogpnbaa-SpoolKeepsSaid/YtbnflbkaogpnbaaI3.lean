/- muslinlaw13: texts, opens. -/
import Derived.Test.YtbnflbkaogpnbaaI2
import Derived.Test.YtbnflbkaogpnbaaQB
import Derived.Deep.AppendLies
namespace Go.Proofs.Ytbnflbkaogpnbaa
set_option linter.unusedVariables false
open Go.RowKit

theorem str_sl (w : World) (s : List UInt8) (hs : s.length ≤ 1000) (t : TypeId) : SlAt (w.drew.alloc (.cells (bytesRow ⟨s.toArray⟩ (grownCap w s.length 0 t)) t ((bytesRow ⟨s.toArray⟩ (grownCap w s.length 0 t)).size, (bytesRow ⟨s.toArray⟩ (grownCap w s.length 0 t)).size + 1))) (some ⟨w.heap.size, 0, none⟩) s.length (grownCap w s.length 0 t) (u8vs s) := by
  have hh : (w.drew.alloc (.cells (bytesRow ⟨s.toArray⟩ (grownCap w s.length 0 t)) t ((bytesRow ⟨s.toArray⟩ (grownCap w s.length 0 t)).size, (bytesRow ⟨s.toArray⟩ (grownCap w s.length 0 t)).size + 1))).heap[w.heap.size]? = _ := heap_alloc_new w.drew _
  refine ⟨by simp [u8vs], grownCap_ge w s.length 0 t, grownCap_le_maxLen w _ 0 t (by unfold maxLen; omega), fun hn => ⟨w.heap.size, 0, rfl, World.lt_of_heap hh, fun i hi => ?_⟩⟩
  rw [blk_cell hh, Nat.zero_add]
  unfold bytesRow
  rw [Array.getElem?_append_left (by simpa using hi)]
  simp [u8vs]
  rfl

/-- What texts does. -/
def TxPost (w : World) (ss : List (List UInt8)) (e : Ending) (w' : World) : Prop :=
  ∃ A c ps, e = .returned (.slice A ss.length c) ∧ Kept [] w w' ∧ BytessAt w' A ss.length c ps ∧ texts ps = ss ∧ (∀ p, A = some p → w.heap.size ≤ p.block) ∧ ∀ q ∈ ps, ∀ p, q.A = some p → w.heap.size ≤ p.block

def TxRel (w : World) (ss : List (List UInt8)) (v i : Value) (wr : World) : Prop :=
  ∃ (k : Nat) (ps : List Part) (G : List Nat), i = .int .i64 k ∧ k ≤ ss.length ∧ Kept [] w wr ∧ RowIn w.heap.size wr 34 G v k (ps.map Part.val) ∧ (∀ p ∈ ps, p.At wr) ∧ texts ps = ss.take k ∧ (∀ q ∈ ps, ∀ p, q.A = some p → w.heap.size ≤ p.block ∧ p.block ∈ G) ∧ ∀ j ∈ G, j < wr.heap.size

set_option maxHeartbeats 2000000 in
set_option maxRecDepth 100000 in
theorem texts13_any (w : World) (b o n c : Nat) (ss : List (List UInt8)) (hlen : ss.length = n) (hn : n ≤ 100) (hnc : n ≤ c) (hcm : c ≤ 9223372036854775807) (hss : ∀ s ∈ ss, 1 ≤ s.length ∧ s.length ≤ 1000) (hb : b < w.heap.size) (hc : ∀ i s, ss[i]? = some s → w.cell? ⟨b, o + i, none⟩ = some (.string ⟨s.toArray⟩)) :
    Calls Try.prog 64 #[.slice (some ⟨b, o, none⟩) n c] w (TxPost w ss) := by
  obtain ⟨j0, hj0, ju0, ju1, ju2⟩ := info_parts info_bytes
  go_enter Try.func64, Try.ntmps64
  go_wp2_with fail
  go_loopw [3, 4] (fun v i wr => TxRel w ss v i wr) (fun _ i _ => n - (intOf i).toNat)
  case atStart => exact ⟨0, [], [], rfl, Nat.zero_le _, Kept.refl _ _, ⟨World.ownsRow_nil _ _ _ _, fun g e => by cases e⟩, by simp, by simp [texts], by simp, by simp⟩
  case round =>
    obtain ⟨k, ps, G, rfl, hk, hkw, hrow, hpa, htx, hpG, hGl⟩ := hrel
    by_cases hlt : k < n
    · have i1 : (k : Int) < (n : Int) := by omega
      obtain ⟨s, hs⟩ : ∃ s, ss[k]? = some s := ⟨_, List.getElem?_eq_getElem (by omega)⟩
      have cs : wr.cell? ⟨b, o + k, none⟩ = some (.string ⟨s.toArray⟩) := (hkw.cell (p := ⟨b, o + k, none⟩) hb (by simp)).trans (hc k s hs)
      have hmem := hss s (List.mem_of_getElem? hs)
      have hcv := run_bytes_of_string (P := Try.prog) wr 9 34 5 ⟨s.toArray⟩ Try.underlying9 Try.underlying34 Try.underlying5
      rw [show (⟨s.toArray⟩ : ByteArray).size = s.length by simp [ByteArray.size]] at hcv
      obtain ⟨G1, hG1⟩ : ∃ G1, grownCap wr s.length 0 5 = G1 := ⟨_, rfl⟩
      have hsl := str_sl wr s hmem.2 5
      have hkA := (Kept.drew [] wr).trans (Kept.alloc [] wr.drew (.cells (bytesRow ⟨s.toArray⟩ (grownCap wr s.length 0 5)) 5 ((bytesRow ⟨s.toArray⟩ (grownCap wr s.length 0 5)).size, (bytesRow ⟨s.toArray⟩ (grownCap wr s.length 0 5)).size + 1)))
      rw [hG1] at hcv hsl hkA
      obtain ⟨wA, hwA⟩ : ∃ wA, (wr.drew.alloc (.cells (bytesRow ⟨s.toArray⟩ G1) 5 ((bytesRow ⟨s.toArray⟩ G1).size, (bytesRow ⟨s.toArray⟩ G1).size + 1))) = wA := ⟨_, rfl⟩
      have hzA : wA.heap.size = wr.heap.size + 1 := by rw [← hwA]; simp
      rw [hwA] at hcv hsl hkA
      clear hwA hG1
      have hpt : Part.At wA ⟨some ⟨wr.heap.size, 0, none⟩, s.length, G1, s⟩ := ⟨hsl, fun e => by cases e⟩
      have hrA : RowIn w.heap.size wA 34 (wr.heap.size :: G) u3 k (ps.map Part.val) := hrow.step ⟨hkA.mono (by simp), fun j hj => by
        rcases List.mem_cons.mp hj with rfl | hj
        · exact .inr (Nat.le_refl _)
        · exact .inl hj⟩
      have hkw2 := hkw.size
      go_wp2_with (at_builtin; refine Hold.of ?_)
      clear hcv
      unfold Hold
      refine wpList_append_lies _ rfl (.tmp 11) (.tmp 17) 64 rfl w.heap.size 34 j0 _ 1 24 Try.underlying64 hj0 ju0 ju1 ju2 rfl (by decide) _ k _ rfl (hrA.next (Kept.alloc [] wA (.cells #[.slice (some ⟨wr.heap.size, 0, none⟩) s.length G1] 34))).own ⟨wr.heap.size + 1, 0, none⟩ 1 1 [.slice (some ⟨wr.heap.size, 0, none⟩) s.length G1] rfl rfl (by rw [← hzA]; exact one_news wA _ _) (one_slice _ _ _) (by omega) (by unfold maxLen; omega) (by omega) (by simp; omega) (wA.heap.size + 1) (by simp) ?_
      intro g cap w5 hown5 hgrow5 hat5 hlt5
      obtain ⟨hr5, hk5, hu5⟩ := hrA.push (fun j hj => by
        rcases List.mem_cons.mp hj with rfl | hj
        · omega
        · have := hGl j hj; omega) (Kept.alloc [] wA (.cells #[.slice (some ⟨wr.heap.size, 0, none⟩) s.length G1] 34)) hgrow5 hown5 hat5 (by simp)
      clear hown5 hgrow5 hat5 hlt5
      go_wp2_with fail
      go_roundw
      case rel =>
        refine ⟨k + 1, ps ++ [⟨some ⟨wr.heap.size, 0, none⟩, s.length, G1, s⟩], wr.heap.size :: G, by go_num, by omega, (hkw.trans hkA).trans' hk5 (fun i hi => .inr ((hrA.own.lt i (by simpa using hi)).1)), by rw [List.map_append]; exact hr5, ?_, ?_, ?_, ?_⟩
        · intro p hp
          have hne : ∀ q : Part, (∀ a, q.A = some a → a.block ∈ wr.heap.size :: G) → ∀ a, q.A = some a → a.block ∉ (u3.ownBlock).toList := fun q hq a e hm => hrA.ne a.block (by simpa using hm) (hq a e)
          rcases List.mem_append.mp hp with hp | hp
          · exact ((hpa p hp).kept hkA (by simp)).kept hk5 (hne p (fun a e => List.mem_cons_of_mem _ (hpG p hp a e).2))
          · obtain rfl := List.mem_singleton.mp hp
            exact hpt.kept hk5 (hne _ (fun a e => by cases e; simp))
        · rw [take_snoc hs]
          simp only [texts, List.map_append, List.map_cons, List.map_nil]
          unfold texts at htx
          rw [htx]
        · intro q hq p e
          rcases List.mem_append.mp hq with hq | hq
          · exact ⟨(hpG q hq p e).1, List.mem_cons_of_mem _ (hpG q hq p e).2⟩
          · obtain rfl := List.mem_singleton.mp hq
            cases e
            exact ⟨hkw2, by simp⟩
        · intro j hj
          have h5 := hk5.size
          rcases List.mem_cons.mp hj with rfl | hj
          · omega
          · have := hGl j hj; omega
      case measure => simp [intOf]; omega
    · obtain rfl : k = n := by omega
      go_wp2_with fail
      go_ret
      obtain ⟨A, c', rfl, hB⟩ := hrow.parts hpa
      subst hlen
      rw [List.take_length] at htx
      refine ⟨A, c', ps, rfl, hkw, hB, htx, fun p e => ?_, fun q hq p e => (hpG q hq p e).1⟩
      exact (hrow.own.lt p.block (by simp [Value.ownBlock, e])).1
end Go.Proofs.Ytbnflbkaogpnbaa
