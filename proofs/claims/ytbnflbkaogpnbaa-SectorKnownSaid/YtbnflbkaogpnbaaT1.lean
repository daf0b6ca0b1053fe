/- Deeds as the cells of a row. -/
import Derived.Test.YtbnflbkaogpnbaaMD
import Derived.Deep.AppendLies
namespace Go.Proofs.Ytbnflbkaogpnbaa
open Go.RowKit

theorem info_deed : (Try.prog.info? 31).map (fun i => (i.zero, i.size, i.bytes)) = some (some (.agg #[.int .i64 0, .int .i64 0, .int .i64 0, .int .i64 0, .slice none 0 0]), 5, 56) := by kernel_rfl

def DeedR.cells (d : DeedR) : List Value := [.int .i64 d.kind, .int .i64 d.a, .int .i64 d.b, .int .i64 d.short, .slice d.kA d.kn d.kc]
def dcells (l : List DeedR) : List Value := l.flatMap DeedR.cells

theorem length_dcells (l : List DeedR) : (dcells l).length = l.length * 5 := by
  induction l with
  | nil => rfl
  | cons d l ih => rw [dcells, List.flatMap_cons, List.length_append, ← dcells, ih]; simp [DeedR.cells]; omega

theorem dcells_at {l : List DeedR} {i : Nat} {d : DeedR} (h : l[i]? = some d) {j : Nat} (hj : j < 5) : (dcells l)[i * 5 + j]? = d.cells[j]? := by
  induction l generalizing i with
  | nil => simp at h
  | cons c l ih =>
    have h5 : c.cells.length = 5 := rfl
    cases i with
    | zero =>
      simp only [List.getElem?_cons_zero, Option.some.injEq] at h
      subst h
      rw [dcells, List.flatMap_cons, List.getElem?_append_left (by rw [h5]; omega)]
      congr 1
      omega
    | succ i =>
      simp only [List.getElem?_cons_succ] at h
      rw [dcells, List.flatMap_cons, List.getElem?_append_right (by rw [h5]; omega), h5, ← dcells, ← ih h]
      congr 1
      omega

theorem dcells_append (l m : List DeedR) : dcells (l ++ m) = dcells l ++ dcells m := by simp [dcells]

/-- Deeds in a block. -/
theorem DeedsAt.of_block {w : World} {g : Nat} {cs : Array Value} {t : TypeId} {fz : Nat × Nat} (hg : w.heap[g]? = some (.cells cs t fz)) {l : List DeedR} {n c : Nat} (hl : l.length = n) (hn : n ≤ c) (hc : c ≤ maxLen)
    (hs : cs.toList.take (n * 5) = dcells l) (hok : ∀ d ∈ l, d.Ok w) : DeedsAt w (some ⟨g, 0, none⟩) n c l :=
  ⟨hl, hn, hc, hok, fun _ => ⟨g, 0, rfl, World.lt_of_heap hg, fun i d hd => by
    have hi := (List.getElem?_eq_some_iff.1 hd).1
    have key : ∀ j, j < 5 → w.cell? ⟨g, 0 + i * 5 + j, none⟩ = d.cells[j]? := fun j hj => by
      rw [blk_cell hg, ← dcells_at hd hj, ← hs, List.getElem?_take, if_pos (by omega), Array.getElem?_toList]
      congr 1
      omega
    exact ⟨key 0 (by omega), key 1 (by omega), key 2 (by omega), key 3 (by omega), key 4 (by omega)⟩⟩⟩

theorem DeedsAt.of_own {w : World} {base : Nat} {v : Value} {n : Nat} {l : List DeedR} (h : w.ownsRow base 31 5 v n (dcells l)) (hok : ∀ d ∈ l, d.Ok w) : ∃ A c, v = .slice A n c ∧ DeedsAt w A n c l := by
  obtain ⟨h1, h2⟩ := h
  have hl : l.length = n := by rw [length_dcells] at h1; omega
  rcases h2 with ⟨rfl, rfl⟩ | ⟨g, cap, cur, rfl, hb, hg, hnc, hcm, hs, ht⟩
  · exact ⟨none, 0, rfl, hl, Nat.le_refl _, by unfold maxLen; omega, hok, fun h => by omega⟩
  · exact ⟨some ⟨g, 0, none⟩, cap, rfl, .of_block hg hl hnc hcm ht hok⟩

/-- The first m of deeds. -/
theorem DeedsAt.take {w : World} {A : Option Addr} {n c : Nat} {l : List DeedR} (h : DeedsAt w A n c l) {m : Nat} (hm : m ≤ n) : DeedsAt w A m c (l.take m) :=
  ⟨by rw [List.length_take, h.len]; omega, by have := h.le; omega, h.max, fun d hd => h.ok d (List.mem_of_mem_take hd), fun h0 => by
    obtain ⟨b, o, hA, hb, hc⟩ := h.cells (by omega)
    refine ⟨b, o, hA, hb, fun i d hd => hc i d ?_⟩
    rw [List.getElem?_take] at hd
    split at hd
    · exact hd
    · cases hd⟩

/-- The cells of deeds, one by one. -/
theorem DeedsAt.cell_at {w : World} {b o n c : Nat} {l : List DeedR} (h : DeedsAt w (some ⟨b, o, none⟩) n c l) {j : Nat} {u : Value} (hj : (dcells l)[j]? = some u) : w.cell? ⟨b, o + j, none⟩ = some u := by
  have hjl := (List.getElem?_eq_some_iff.1 hj).1
  rw [length_dcells, h.len] at hjl
  obtain ⟨b2, o2, hA, hb, hc⟩ := h.cells (by omega)
  cases hA
  obtain ⟨i, k, hk, rfl⟩ : ∃ i k, k < 5 ∧ j = i * 5 + k := ⟨j / 5, j % 5, Nat.mod_lt _ (by omega), by omega⟩
  have hd : l[i]? = some (l[i]'(by rw [h.len]; omega)) := List.getElem?_eq_getElem (by rw [h.len]; omega)
  obtain ⟨h0, h1, h2, h3, h4⟩ := hc i _ hd
  rw [dcells_at hd hk] at hj
  have : k = 0 ∨ k = 1 ∨ k = 2 ∨ k = 3 ∨ k = 4 := by omega
  rcases this with rfl | rfl | rfl | rfl | rfl
  all_goals
    rw [show o + (i * 5 + _) = o + i * 5 + _ from (Nat.add_assoc _ _ _).symm]
    first
      | exact h0.trans hj
      | exact h1.trans hj
      | exact h2.trans hj
      | exact h3.trans hj
      | exact h4.trans hj

theorem dcells_one (l : List DeedR) : ∀ u ∈ dcells l, u.oneCell' = true := by
  intro u hu
  simp only [dcells, List.mem_flatMap, DeedR.cells, List.mem_cons, List.not_mem_nil, or_false] at hu
  obtain ⟨d, _, rfl | rfl | rfl | rfl | rfl⟩ := hu <;> rfl

/-- Deeds whose lists do not lie in what is turned. -/
theorem DeedR.Ok.kept {w w' : World} {d : DeedR} {F : List Nat} (h : d.Ok w) (hk : Kept F w w') (hF : ∀ p, d.kA = some p → p.block ∉ F) : d.Ok w' := { h with sl := h.sl.kept hk hF }
end Go.Proofs.Ytbnflbkaogpnbaa
