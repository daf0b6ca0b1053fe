/- strip.Open. -/
import Derived.Test.YtbnflbkaogpnbaaV7b
namespace Go.Proofs.Ytbnflbkaogpnbaa
open Go.RowKit Go.Shelf

attribute [local go_sem] Oper.semAt_some

set_option maxHeartbeats 4000000 in
set_option maxRecDepth 100000 in
theorem open_any {w : World} {a : Nat} {fp : List Nat} {d : Dev} (hD : Dv w a fp d) (first many fin : Int) (h1 : I64 first) (h2 : I64 many) (h3 : I64 fin) :
    Calls Try.prog 46 #[.pointer (some ⟨a, 0, none⟩), .int .i64 first, .int .i64 many, .int .i64 fin] w (OpenPost w a d first many fin) := by
  unfold I64 at h1 h2 h3
  obtain ⟨W, hW⟩ : ∃ W, ((w.alloc (.cells #[.pointer none] 65)).alloc (.cells #[.slice none 0 0] 64)).alloc (.cells #[.int .i64 0] 25) = W := ⟨_, rfl⟩
  have hk : Kept [] w W := by rw [← hW]; exact ((Kept.alloc [] w _).trans (Kept.alloc [] _ _)).trans (Kept.alloc [] _ _)
  have hr1 : W.heap[w.heap.size]? = some (.cells #[.pointer none] 65 (0, 0)) := by rw [← hW, Below.heap_alloc _ _ _ (by simp; omega), Below.heap_alloc _ _ _ (by simp), heap_alloc_new]
  have hr2 : W.heap[w.heap.size + 1]? = some (.cells #[.slice none 0 0] 64 (0, 0)) := by
    have h := heap_alloc_new (w.alloc (.cells #[.pointer none] 65)) (.cells #[.slice none 0 0] 64)
    simp only [World.size_alloc] at h
    rw [← hW, Below.heap_alloc _ _ _ (by simp), h]
  have hr3 : W.heap[w.heap.size + 1 + 1]? = some (.cells #[.int .i64 0] 25 (0, 0)) := by
    have h := heap_alloc_new ((w.alloc (.cells #[.pointer none] 65)).alloc (.cells #[.slice none 0 0] 64)) (.cells #[.int .i64 0] 25)
    simp only [World.size_alloc] at h
    rw [← hW]; exact h
  have hOW : OpAt w W a fp d := ⟨hD.new_kept hk, hr1, hr2, hr3, hk⟩
  clear hk hr1 hr2 hr3
  have hm := hD.wf.many
  by_cases hz : d.at_ 0 = 0
  · obtain ⟨hdead, _, hlen⟩ := Dev.at_zero hz
    obtain ⟨b0, hb0⟩ : ∃ b, d.secs[(0 : Int).toNat]? = some b := ⟨_, List.getElem?_eq_getElem (by simpa using hlen)⟩
    have cr := read_dv hOW.dv 0 hz hb0
    by_cases e1 : first < 0
    · have hob : openBad d first many fin = 9 := by unfold openBad; rw [if_neg (by omega), if_pos (by omega)]
      clear h1 h2 h3
      refine (callsIn_wide (n := 10)).1 ?_
      refine callsIn_of_wp_marks Try.func46 rfl trivial ?_ rfl
      simp only [Try.ntmps46, List.size_toArray, List.length_cons, List.length_nil, Nat.reduceAdd, Nat.reduceSub, Array.replicate_succ, Array.replicate_zero, List.push_toArray, List.append_toArray, List.nil_append, List.cons_append]
      refine wpIn_wide.2 ?_
      go_wp2_with (first | (go_at_call 30; refine cr.mono ?_; rintro e w1 ⟨A1, d1, rfl, hown1, hbel1⟩; have hO := hOW.next (Kept.of_below hbel1); obtain ⟨c1, c2, c3, f1, f2, f3⟩ := hO.cells; clear hown1 hbel1) | (go_at_call 37; refine (size_dv hO.dv).mono ?_; rintro e w' ⟨rfl, rfl⟩))
      obtain ⟨q1, q2, q3, _⟩ := hO.set3 (.pointer none) (.slice none 0 0) (.int .i64 9)
      refine ⟨_, results_cells3 rfl _ _ w.heap.size (w.heap.size + 1) (w.heap.size + 1 + 1) _ _ _ rfl rfl rfl q1 q2 q3 agg_strip agg_bytess agg_errno, ?_⟩
      exact hO.out hob (by decide)
    · by_cases e2 : (d.secs.length : Int) < first
      · have hob : openBad d first many fin = 9 := by unfold openBad; rw [if_neg (by omega), if_pos (by omega)]
        clear h1 h2 h3
        refine (callsIn_wide (n := 10)).1 ?_
        refine callsIn_of_wp_marks Try.func46 rfl trivial ?_ rfl
        simp only [Try.ntmps46, List.size_toArray, List.length_cons, List.length_nil, Nat.reduceAdd, Nat.reduceSub, Array.replicate_succ, Array.replicate_zero, List.push_toArray, List.append_toArray, List.nil_append, List.cons_append]
        refine wpIn_wide.2 ?_
        go_wp2_with (first | (go_at_call 30; refine cr.mono ?_; rintro e w1 ⟨A1, d1, rfl, hown1, hbel1⟩; have hO := hOW.next (Kept.of_below hbel1); obtain ⟨c1, c2, c3, f1, f2, f3⟩ := hO.cells; clear hown1 hbel1) | (go_at_call 37; refine (size_dv hO.dv).mono ?_; rintro e w' ⟨rfl, rfl⟩))
        obtain ⟨q1, q2, q3, _⟩ := hO.set3 (.pointer none) (.slice none 0 0) (.int .i64 9)
        refine ⟨_, results_cells3 rfl _ _ w.heap.size (w.heap.size + 1) (w.heap.size + 1 + 1) _ _ _ rfl rfl rfl q1 q2 q3 agg_strip agg_bytess agg_errno, ?_⟩
        exact hO.out hob (by decide)
      · by_cases e3 : many < 1
        · have hob : openBad d first many fin = 9 := by unfold openBad; rw [if_neg (by omega), if_pos (by omega)]
          clear h2 h3
          refine (callsIn_wide (n := 10)).1 ?_
          refine callsIn_of_wp_marks Try.func46 rfl trivial ?_ rfl
          simp only [Try.ntmps46, List.size_toArray, List.length_cons, List.length_nil, Nat.reduceAdd, Nat.reduceSub, Array.replicate_succ, Array.replicate_zero, List.push_toArray, List.append_toArray, List.nil_append, List.cons_append]
          refine wpIn_wide.2 ?_
          go_wp2_with (first | (go_at_call 30; refine cr.mono ?_; rintro e w1 ⟨A1, d1, rfl, hown1, hbel1⟩; have hO := hOW.next (Kept.of_below hbel1); obtain ⟨c1, c2, c3, f1, f2, f3⟩ := hO.cells; clear hown1 hbel1) | (go_at_call 37; refine (size_dv hO.dv).mono ?_; rintro e w' ⟨rfl, rfl⟩))
          obtain ⟨q1, q2, q3, _⟩ := hO.set3 (.pointer none) (.slice none 0 0) (.int .i64 9)
          refine ⟨_, results_cells3 rfl _ _ w.heap.size (w.heap.size + 1) (w.heap.size + 1 + 1) _ _ _ rfl rfl rfl q1 q2 q3 agg_strip agg_bytess agg_errno, ?_⟩
          exact hO.out hob (by decide)
        · by_cases e4 : (d.secs.length : Int) - first < many
          · have hob : openBad d first many fin = 9 := by unfold openBad; rw [if_neg (by omega), if_pos (by omega)]
            clear h2 h3
            refine (callsIn_wide (n := 10)).1 ?_
            refine callsIn_of_wp_marks Try.func46 rfl trivial ?_ rfl
            simp only [Try.ntmps46, List.size_toArray, List.length_cons, List.length_nil, Nat.reduceAdd, Nat.reduceSub, Array.replicate_succ, Array.replicate_zero, List.push_toArray, List.append_toArray, List.nil_append, List.cons_append]
            refine wpIn_wide.2 ?_
            go_wp2_with (first | (go_at_call 30; refine cr.mono ?_; rintro e w1 ⟨A1, d1, rfl, hown1, hbel1⟩; have hO := hOW.next (Kept.of_below hbel1); obtain ⟨c1, c2, c3, f1, f2, f3⟩ := hO.cells; clear hown1 hbel1) | (go_at_call 37; refine (size_dv hO.dv).mono ?_; rintro e w' ⟨rfl, rfl⟩))
            obtain ⟨q1, q2, q3, _⟩ := hO.set3 (.pointer none) (.slice none 0 0) (.int .i64 9)
            refine ⟨_, results_cells3 rfl _ _ w.heap.size (w.heap.size + 1) (w.heap.size + 1 + 1) _ _ _ rfl rfl rfl q1 q2 q3 agg_strip agg_bytess agg_errno, ?_⟩
            exact hO.out hob (by decide)
          · by_cases e5 : fin < 0
            · have hob : openBad d first many fin = 2 := by unfold openBad; rw [if_neg (by omega), if_neg (by omega), if_pos (by omega)]
              clear h3
              refine (callsIn_wide (n := 10)).1 ?_
              refine callsIn_of_wp_marks Try.func46 rfl trivial ?_ rfl
              simp only [Try.ntmps46, List.size_toArray, List.length_cons, List.length_nil, Nat.reduceAdd, Nat.reduceSub, Array.replicate_succ, Array.replicate_zero, List.push_toArray, List.append_toArray, List.nil_append, List.cons_append]
              refine wpIn_wide.2 ?_
              go_wp2_with (first | (go_at_call 30; refine cr.mono ?_; rintro e w1 ⟨A1, d1, rfl, hown1, hbel1⟩; have hO := hOW.next (Kept.of_below hbel1); obtain ⟨c1, c2, c3, f1, f2, f3⟩ := hO.cells; clear hown1 hbel1) | (go_at_call 37; refine (size_dv hO.dv).mono ?_; rintro e w' ⟨rfl, rfl⟩))
              obtain ⟨q1, q2, q3, _⟩ := hO.set3 (.pointer none) (.slice none 0 0) (.int .i64 2)
              refine ⟨_, results_cells3 rfl _ _ w.heap.size (w.heap.size + 1) (w.heap.size + 1 + 1) _ _ _ rfl rfl rfl q1 q2 q3 agg_strip agg_bytess agg_errno, ?_⟩
              exact hO.out hob (by decide)
            · by_cases e6 : 128 * many < fin
              · have hob : openBad d first many fin = 2 := by unfold openBad; rw [if_neg (by omega), if_neg (by omega), if_pos (by omega)]
                clear h3
                refine (callsIn_wide (n := 10)).1 ?_
                refine callsIn_of_wp_marks Try.func46 rfl trivial ?_ rfl
                simp only [Try.ntmps46, List.size_toArray, List.length_cons, List.length_nil, Nat.reduceAdd, Nat.reduceSub, Array.replicate_succ, Array.replicate_zero, List.push_toArray, List.append_toArray, List.nil_append, List.cons_append]
                refine wpIn_wide.2 ?_
                go_wp2_with (first | (go_at_call 30; refine cr.mono ?_; rintro e w1 ⟨A1, d1, rfl, hown1, hbel1⟩; have hO := hOW.next (Kept.of_below hbel1); obtain ⟨c1, c2, c3, f1, f2, f3⟩ := hO.cells; clear hown1 hbel1) | (go_at_call 37; refine (size_dv hO.dv).mono ?_; rintro e w' ⟨rfl, rfl⟩))
                obtain ⟨q1, q2, q3, _⟩ := hO.set3 (.pointer none) (.slice none 0 0) (.int .i64 2)
                refine ⟨_, results_cells3 rfl _ _ w.heap.size (w.heap.size + 1) (w.heap.size + 1 + 1) _ _ _ rfl rfl rfl q1 q2 q3 agg_strip agg_bytess agg_errno, ?_⟩
                exact hO.out hob (by decide)
              · have hob : openBad d first many fin = 0 := by unfold openBad; rw [if_neg (by omega), if_neg (by omega), if_neg (by omega)]
                obtain ⟨f, rfl⟩ : ∃ f : Nat, first = f := ⟨first.toNat, by omega⟩
                obtain ⟨m, rfl⟩ : ∃ m : Nat, many = m := ⟨many.toNat, by omega⟩
                obtain ⟨e, rfl⟩ : ∃ e : Nat, fin = e := ⟨fin.toNat, by omega⟩
                exact open_main hD f m e hz (by omega) (by omega) (by omega) hob
  · have hb : (d.at_ 0 != 0) = true := by simpa using hz
    have hob : openBad d first many fin = d.at_ 0 := by unfold openBad; rw [if_pos hz]
    have hO := hOW
    obtain ⟨c1, c2, c3, f1, f2, f3⟩ := hO.cells
    refine (callsIn_wide (n := 10)).1 ?_
    refine callsIn_of_wp_marks Try.func46 rfl trivial ?_ rfl
    simp only [Try.ntmps46, List.size_toArray, List.length_cons, List.length_nil, Nat.reduceAdd, Nat.reduceSub, Array.replicate_succ, Array.replicate_zero, List.push_toArray, List.append_toArray, List.nil_append, List.cons_append]
    refine wpIn_wide.2 ?_
    go_wp2_with (go_at_call 30; refine (read_bad hO.dv 0 hz).mono ?_; rintro e w' ⟨rfl, rfl⟩)
    obtain ⟨q1, q2, q3, _⟩ := hO.set3 (.pointer none) (.slice none 0 0) (.int .i64 (d.at_ 0))
    refine ⟨_, results_cells3 rfl _ _ w.heap.size (w.heap.size + 1) (w.heap.size + 1 + 1) _ _ _ rfl rfl rfl q1 q2 q3 agg_strip agg_bytess agg_errno, ?_⟩
    exact hO.out hob hz
end Go.Proofs.Ytbnflbkaogpnbaa
