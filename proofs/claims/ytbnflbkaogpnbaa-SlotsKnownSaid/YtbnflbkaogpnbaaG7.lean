/- The pair of chapter 11 in memory: the program's device and slots, and the document's (py/g7.py prints it out of N5). -/
import Derived.Test.YtbnflbkaogpnbaaG6
namespace Go.Proofs.Ytbnflbkaogpnbaa
set_option linter.unusedVariables false
open Go.RowKit

def TwOpt (w : World) (a : Nat) (v : Value) (S : List Nat) : Option Sl → Prop
  | none => v = .pointer none
  | some s => ∃ z, v = .pointer (some ⟨z, 0, none⟩) ∧ TwAt w z a S s
def RsOpt (w : World) (r : Nat) (v : Value) (G : List Nat) : Option Sl → Prop
  | none => v = .pointer none
  | some s => ∃ z, v = .pointer (some ⟨z, 0, none⟩) ∧ R11At w z r s ∧ z ∈ G

theorem TwOpt.kept {w w' : World} {a : Nat} {v : Value} {S F : List Nat} {o : Option Sl} (h : TwOpt w a v S o) (hk : Kept F w w') (hF : ∀ j ∈ S, j ∉ F) : TwOpt w' a v S o := by
  cases o with
  | none => exact h
  | some s =>
    obtain ⟨z, h1, h2⟩ := h
    exact ⟨z, h1, h2.kept hk hF⟩
theorem RsOpt.kept {w w' : World} {r : Nat} {v : Value} {G F : List Nat} {o : Option Sl} (h : RsOpt w r v G o) (hk : Kept F w w') (hF : ∀ j ∈ G, j ∉ F) : RsOpt w' r v G o := by
  cases o with
  | none => exact h
  | some s =>
    obtain ⟨z, h1, h2, h3⟩ := h
    exact ⟨z, h1, h2.kept hk (hF z h3), h3⟩

def prCells11 (a r : Nat) (vs vm : Value) (fine : Bool) : Array Value := #[.pointer (some ⟨a, 0, none⟩), vs, .pointer (some ⟨r, 0, none⟩), vm, .bool fine]

/-- The pair at p; t tells whose each block is. -/
structure Pr11 (w0 w : World) (p a r : Nat) (d e : Dev) (os om : Option Sl) (vs vm : Value) (fp gp S G : List Nat) (t : Nat → Nat) : Prop where
  head : w.heap[p]? = some (.cells (prCells11 a r vs vm true) 133 (0, 0))
  dv : Dv w a fp d
  rv : Rv w r gp e
  st : TwOpt w a vs S os
  rt : RsOpt w r vm G om
  tp : t p = 0
  tf : ∀ j ∈ fp, t j = 1
  tg : ∀ j ∈ gp, t j = 2
  tS : ∀ j ∈ S, t j = 3
  tG : ∀ j ∈ G, t j = 4
  low : ∀ j, j = p ∨ j ∈ fp ∨ j ∈ gp ∨ j ∈ S ∨ j ∈ G → w0.heap.size ≤ j
  ltS : ∀ j ∈ S, j < w.heap.size
  ltG : ∀ j ∈ G, j < w.heap.size
  kept : Kept [] w0 w

section
variable {w0 w w' : World} {p a r : Nat} {d e d' e' : Dev} {os om os' om' : Option Sl} {vs vm vs' vm' : Value} {fp gp S G fp' gp' S' G' : List Nat} {t : Nat → Nat}

theorem Pr11.pl (h : Pr11 w0 w p a r d e os om vs vm fp gp S G t) : p < w.heap.size := World.lt_of_heap h.head

theorem Pr11.keptF (h : Pr11 w0 w p a r d e os om vs vm fp gp S G t) {F : List Nat} (hk : Kept F w w') (hF : ∀ j ∈ F, j ≠ p ∧ j ∉ fp ∧ j ∉ gp ∧ j ∉ S ∧ j ∉ G) (hl : ∀ j ∈ F, w0.heap.size ≤ j) : Pr11 w0 w' p a r d e os om vs vm fp gp S G t :=
  ⟨(hk.block p h.pl (fun hm => (hF p hm).1 rfl)).trans h.head, h.dv.kept hk (fun j hj hm => (hF j hm).2.1 hj), h.rv.kept hk (fun j hj hm => (hF j hm).2.2.1 hj), h.st.kept hk (fun j hj hm => (hF j hm).2.2.2.1 hj), h.rt.kept hk (fun j hj hm => (hF j hm).2.2.2.2 hj),
    h.tp, h.tf, h.tg, h.tS, h.tG, h.low, fun j hj => Nat.lt_of_lt_of_le (h.ltS j hj) hk.size, fun j hj => Nat.lt_of_lt_of_le (h.ltG j hj) hk.size, h.kept.trans' hk (fun j hj => .inr (hl j hj))⟩

theorem Pr11.next (h : Pr11 w0 w p a r d e os om vs vm fp gp S G t) (hk : Kept [] w w') : Pr11 w0 w' p a r d e os om vs vm fp gp S G t := h.keptF hk (by simp) (by simp)

/-- A deed of the program's device. -/
theorem Pr11.dev (h : Pr11 w0 w p a r d e os om vs vm fp gp S G t) (hD : Dv w' a fp' d') (hk : Kept fp w w') (hn : ∀ j ∈ fp', j ∈ fp ∨ w.heap.size ≤ j) : ∃ t', Pr11 w0 w' p a r d' e os om vs vm fp' gp S G t' := by
  have o : ∀ j x, t j = x → x ≠ 1 → j ∉ fp := fun j x h1 h2 hm => h2 (h1.symm.trans (h.tf j hm))
  have old : ∀ j, j < w.heap.size → (if j < w.heap.size then t j else 1) = t j := fun j hj => if_pos hj
  have hz := h.kept.size
  refine ⟨fun j => if j < w.heap.size then t j else 1, (hk.block p h.pl (o p 0 h.tp (by omega))).trans h.head, hD, h.rv.kept hk (fun j hj => o j 2 (h.tg j hj) (by omega)), h.st.kept hk (fun j hj => o j 3 (h.tS j hj) (by omega)), h.rt.kept hk (fun j hj => o j 4 (h.tG j hj) (by omega)), (old p h.pl).trans h.tp, fun j hj => ?_, fun j hj => (old j (h.rv.lt j hj)).trans (h.tg j hj), fun j hj => (old j (h.ltS j hj)).trans (h.tS j hj), fun j hj => (old j (h.ltG j hj)).trans (h.tG j hj), fun j hj => ?_, fun j hj => Nat.lt_of_lt_of_le (h.ltS j hj) hk.size, fun j hj => Nat.lt_of_lt_of_le (h.ltG j hj) hk.size, h.kept.trans' hk (fun j hj => .inr (h.low j (.inr (.inl hj))))⟩
  · rcases hn j hj with e1 | e1
    · exact (old j (h.dv.lt j e1)).trans (h.tf j e1)
    · exact if_neg (by omega)
  · rcases hj with e1 | e1 | e1
    · exact h.low j (.inl e1)
    · rcases hn j e1 with e2 | e2
      · exact h.low j (.inr (.inl e2))
      · omega
    · exact h.low j (.inr (.inr e1))

/-- A deed of the document's device. -/
theorem Pr11.ref (h : Pr11 w0 w p a r d e os om vs vm fp gp S G t) (hD : Rv w' r gp' e') (hk : Kept gp w w') (hn : ∀ j ∈ gp', j ∈ gp ∨ w.heap.size ≤ j) : ∃ t', Pr11 w0 w' p a r d e' os om vs vm fp gp' S G t' := by
  have o : ∀ j x, t j = x → x ≠ 2 → j ∉ gp := fun j x h1 h2 hm => h2 (h1.symm.trans (h.tg j hm))
  have old : ∀ j, j < w.heap.size → (if j < w.heap.size then t j else 2) = t j := fun j hj => if_pos hj
  have hz := h.kept.size
  refine ⟨fun j => if j < w.heap.size then t j else 2, (hk.block p h.pl (o p 0 h.tp (by omega))).trans h.head, h.dv.kept hk (fun j hj => o j 1 (h.tf j hj) (by omega)), hD, h.st.kept hk (fun j hj => o j 3 (h.tS j hj) (by omega)), h.rt.kept hk (fun j hj => o j 4 (h.tG j hj) (by omega)), (old p h.pl).trans h.tp, fun j hj => (old j (h.dv.lt j hj)).trans (h.tf j hj), fun j hj => ?_, fun j hj => (old j (h.ltS j hj)).trans (h.tS j hj), fun j hj => (old j (h.ltG j hj)).trans (h.tG j hj), fun j hj => ?_, fun j hj => Nat.lt_of_lt_of_le (h.ltS j hj) hk.size, fun j hj => Nat.lt_of_lt_of_le (h.ltG j hj) hk.size, h.kept.trans' hk (fun j hj => .inr (h.low j (.inr (.inr (.inl hj)))))⟩
  · rcases hn j hj with e1 | e1
    · exact (old j (h.rv.lt j e1)).trans (h.tg j e1)
    · exact if_neg (by omega)
  · rcases hj with e1 | e1 | e1 | e1
    · exact h.low j (.inl e1)
    · exact h.low j (.inr (.inl e1))
    · rcases hn j e1 with e2 | e2
      · exact h.low j (.inr (.inr (.inl e2)))
      · omega
    · exact h.low j (.inr (.inr (.inr e1)))

/-- An Append of the program's strip. -/
theorem Pr11.str (h : Pr11 w0 w p a r d e os om vs vm fp gp S G t) (hD : Dv w' a fp' d') (hS : TwOpt w' a vs S' os') (hk : Kept (fp ++ S) w w') (hn : ∀ j ∈ fp', j ∈ fp ∨ w.heap.size ≤ j) (hm : ∀ j ∈ S', j ∈ S ∨ w.heap.size ≤ j) (hd : ∀ j ∈ S', j ∉ fp') (hl : ∀ j ∈ S', j < w'.heap.size) : ∃ t', Pr11 w0 w' p a r d' e os' om vs vm fp' gp S' G t' := by
  have o : ∀ j x, t j = x → x ≠ 1 → x ≠ 3 → j ∉ fp ++ S := fun j x h1 h2 h3 hm => by
    rcases List.mem_append.mp hm with hm | hm
    · exact h2 (h1.symm.trans (h.tf j hm))
    · exact h3 (h1.symm.trans (h.tS j hm))
  have old : ∀ j, j < w.heap.size → (if j < w.heap.size then t j else if j ∈ fp' then 1 else 3) = t j := fun j hj => if_pos hj
  have hz := h.kept.size
  refine ⟨fun j => if j < w.heap.size then t j else if j ∈ fp' then 1 else 3, (hk.block p h.pl (o p 0 h.tp (by omega) (by omega))).trans h.head, hD, h.rv.kept hk (fun j hj => o j 2 (h.tg j hj) (by omega) (by omega)), hS, h.rt.kept hk (fun j hj => o j 4 (h.tG j hj) (by omega) (by omega)), (old p h.pl).trans h.tp, fun j hj => ?_, fun j hj => (old j (h.rv.lt j hj)).trans (h.tg j hj), fun j hj => ?_, fun j hj => (old j (h.ltG j hj)).trans (h.tG j hj), fun j hj => ?_, hl, fun j hj => Nat.lt_of_lt_of_le (h.ltG j hj) hk.size, h.kept.trans' hk (fun j hj => .inr ?_)⟩
  · rcases hn j hj with e1 | e1
    · exact (old j (h.dv.lt j e1)).trans (h.tf j e1)
    · exact (if_neg (by omega)).trans (if_pos hj)
  · rcases hm j hj with e1 | e1
    · exact (old j (h.ltS j e1)).trans (h.tS j e1)
    · exact (if_neg (by omega)).trans (if_neg (hd j hj))
  · rcases hj with e1 | e1 | e1 | e1 | e1
    · exact h.low j (.inl e1)
    · rcases hn j e1 with e2 | e2
      · exact h.low j (.inr (.inl e2))
      · omega
    · exact h.low j (.inr (.inr (.inl e1)))
    · rcases hm j e1 with e2 | e2
      · exact h.low j (.inr (.inr (.inr (.inl e2))))
      · omega
    · exact h.low j (.inr (.inr (.inr (.inr e1))))
  · rcases List.mem_append.mp hj with e1 | e1
    · exact h.low j (.inr (.inl e1))
    · exact h.low j (.inr (.inr (.inr (.inl e1))))

/-- An Append of the document's strip. -/
theorem Pr11.rst (h : Pr11 w0 w p a r d e os om vs vm fp gp S G t) (hD : Rv w' r gp' e') (hS : RsOpt w' r vm G' om') (hk : Kept (gp ++ G) w w') (hn : ∀ j ∈ gp', j ∈ gp ∨ w.heap.size ≤ j) (hm : ∀ j ∈ G', j ∈ G ∨ w.heap.size ≤ j) (hd : ∀ j ∈ G', j ∉ gp') (hl : ∀ j ∈ G', j < w'.heap.size) : ∃ t', Pr11 w0 w' p a r d e' os om' vs vm fp gp' S G' t' := by
  have o : ∀ j x, t j = x → x ≠ 2 → x ≠ 4 → j ∉ gp ++ G := fun j x h1 h2 h3 hm => by
    rcases List.mem_append.mp hm with hm | hm
    · exact h2 (h1.symm.trans (h.tg j hm))
    · exact h3 (h1.symm.trans (h.tG j hm))
  have old : ∀ j, j < w.heap.size → (if j < w.heap.size then t j else if j ∈ gp' then 2 else 4) = t j := fun j hj => if_pos hj
  have hz := h.kept.size
  refine ⟨fun j => if j < w.heap.size then t j else if j ∈ gp' then 2 else 4, (hk.block p h.pl (o p 0 h.tp (by omega) (by omega))).trans h.head, h.dv.kept hk (fun j hj => o j 1 (h.tf j hj) (by omega) (by omega)), hD, h.st.kept hk (fun j hj => o j 3 (h.tS j hj) (by omega) (by omega)), hS, (old p h.pl).trans h.tp, fun j hj => (old j (h.dv.lt j hj)).trans (h.tf j hj), fun j hj => ?_, fun j hj => (old j (h.ltS j hj)).trans (h.tS j hj), fun j hj => ?_, fun j hj => ?_, fun j hj => Nat.lt_of_lt_of_le (h.ltS j hj) hk.size, hl, h.kept.trans' hk (fun j hj => .inr ?_)⟩
  · rcases hn j hj with e1 | e1
    · exact (old j (h.rv.lt j e1)).trans (h.tg j e1)
    · exact (if_neg (by omega)).trans (if_pos hj)
  · rcases hm j hj with e1 | e1
    · exact (old j (h.ltG j e1)).trans (h.tG j e1)
    · exact (if_neg (by omega)).trans (if_neg (hd j hj))
  · rcases hj with e1 | e1 | e1 | e1 | e1
    · exact h.low j (.inl e1)
    · exact h.low j (.inr (.inl e1))
    · rcases hn j e1 with e2 | e2
      · exact h.low j (.inr (.inr (.inl e2)))
      · omega
    · exact h.low j (.inr (.inr (.inr (.inl e1))))
    · rcases hm j e1 with e2 | e2
      · exact h.low j (.inr (.inr (.inr (.inr e2))))
      · omega
  · rcases List.mem_append.mp hj with e1 | e1
    · exact h.low j (.inr (.inr (.inl e1)))
    · exact h.low j (.inr (.inr (.inr (.inr e1))))

/-- The pair's own cells are written: what it has of strips is new, or as it was. -/
theorem Pr11.put {w1 : World} (h : Pr11 w0 w p a r d e os om vs vm fp gp S G t) (h1 : Kept [] w w1) (hk : Kept [p] w1 w') (hh : w'.heap[p]? = some (.cells (prCells11 a r vs' vm' true) 133 (0, 0))) (hS : TwOpt w1 a vs' S' os') (hG : RsOpt w1 r vm' G' om')
    (nS : ∀ j ∈ S', j ∈ S ∨ w.heap.size ≤ j) (nG : ∀ j ∈ G', j ∈ G ∨ w.heap.size ≤ j) (hd : ∀ j ∈ S', j ∉ G') (lS : ∀ j ∈ S', j < w1.heap.size) (lG : ∀ j ∈ G', j < w1.heap.size) : ∃ t', Pr11 w0 w' p a r d e os' om' vs' vm' fp gp S' G' t' := by
  have hpl := h.pl
  have old : ∀ j, j < w.heap.size → (if j < w.heap.size then t j else if j ∈ S' then 3 else 4) = t j := fun j hj => if_pos hj
  have hz := h.kept.size
  have hp : ∀ j x, t j = x → x ≠ 0 → j ∉ [p] := fun j x h2 h3 hm => by
    simp only [List.mem_singleton] at hm
    subst hm
    exact h3 (h2.symm.trans h.tp)
  have tS : ∀ j ∈ S', (if j < w.heap.size then t j else if j ∈ S' then 3 else 4) = 3 := fun j hj => by
    rcases nS j hj with e1 | e1
    · exact (old j (h.ltS j e1)).trans (h.tS j e1)
    · exact (if_neg (by omega)).trans (if_pos hj)
  have tG : ∀ j ∈ G', (if j < w.heap.size then t j else if j ∈ S' then 3 else 4) = 4 := fun j hj => by
    rcases nG j hj with e1 | e1
    · exact (old j (h.ltG j e1)).trans (h.tG j e1)
    · exact (if_neg (by omega)).trans (if_neg (fun hm => hd j hm hj))
  have np : ∀ j, (if j < w.heap.size then t j else if j ∈ S' then 3 else 4) ≠ 0 → j ∉ [p] := fun j h2 hm => by
    simp only [List.mem_singleton] at hm
    subst hm
    exact h2 ((old j hpl).trans h.tp)
  refine ⟨fun j => if j < w.heap.size then t j else if j ∈ S' then 3 else 4, hh, (h.dv.new_kept h1).kept hk (fun j hj => hp j 1 (h.tf j hj) (by omega)), (h.rv.new_kept h1).kept hk (fun j hj => hp j 2 (h.tg j hj) (by omega)), hS.kept hk (fun j hj => np j (by rw [tS j hj]; omega)), hG.kept hk (fun j hj => np j (by rw [tG j hj]; omega)), (old p hpl).trans h.tp, fun j hj => (old j (h.dv.lt j hj)).trans (h.tf j hj), fun j hj => (old j (h.rv.lt j hj)).trans (h.tg j hj), tS, tG, fun j hj => ?_, fun j hj => Nat.lt_of_lt_of_le (lS j hj) hk.size, fun j hj => Nat.lt_of_lt_of_le (lG j hj) hk.size, (h.kept.trans h1).trans' hk (fun j hj => by simp at hj; subst hj; exact .inr (h.low _ (.inl rfl)))⟩
  rcases hj with e1 | e1 | e1 | e1 | e1
  · exact h.low j (.inl e1)
  · exact h.low j (.inr (.inl e1))
  · exact h.low j (.inr (.inr (.inl e1)))
  · rcases nS j e1 with e2 | e2
    · exact h.low j (.inr (.inr (.inr (.inl e2))))
    · omega
  · rcases nG j e1 with e2 | e2
    · exact h.low j (.inr (.inr (.inr (.inr e2))))
    · omega
end
end Go.Proofs.Ytbnflbkaogpnbaa
