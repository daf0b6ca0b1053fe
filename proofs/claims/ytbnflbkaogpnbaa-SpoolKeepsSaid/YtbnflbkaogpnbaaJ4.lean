/- A log in memory; its small functions. -/
import Derived.Test.YtbnflbkaogpnbaaJ3
namespace Go.Proofs.Ytbnflbkaogpnbaa
set_option linter.unusedVariables false
open Go.RowKit

/-- In w, at block y, the log s on the device d at a; its slots at zs, its strip at zt; their blocks. -/
structure SpP (w : World) (y zs zt a : Nat) (fp slp stp : List Nat) (s : Sp) (d : Dev) : Prop where
  head : w.heap[y]? = some (.cells #[.pointer (some ⟨a, 0, none⟩), .pointer (some ⟨zs, 0, none⟩), .pointer (some ⟨zt, 0, none⟩), .int .i64 s.first, .int .i64 s.each, .int .i64 s.half, .int .i64 s.many, .bool s.added, .bool s.broken] 140 (0, 0))
  dv : Dv w a fp d
  sl : TwAt w zs a slp s.sl
  st : StAt w zt a stp s.st
  y1 : y ∉ fp
  y2 : y ∉ slp
  y3 : y ∉ stp
  d1 : ∀ j ∈ slp, j ∉ fp
  d2 : ∀ j ∈ stp, j ∉ fp
  d3 : ∀ j ∈ slp, j ∉ stp

section
variable {w w' : World} {y zs zt a : Nat} {fp slp stp : List Nat} {s : Sp} {d : Dev}

theorem SpP.yl (h : SpP w y zs zt a fp slp stp s d) : y < w.heap.size := World.lt_of_heap h.head

theorem SpP.kept {G : List Nat} (h : SpP w y zs zt a fp slp stp s d) (hk : Kept G w w') (g0 : y ∉ G) (g1 : ∀ j ∈ fp, j ∉ G) (g2 : ∀ j ∈ slp, j ∉ G) (g3 : ∀ j ∈ stp, j ∉ G) : SpP w' y zs zt a fp slp stp s d :=
  ⟨(hk.block y h.yl g0).trans h.head, h.dv.kept hk g1, h.sl.kept hk g2, h.st.kept hk g3, h.y1, h.y2, h.y3, h.d1, h.d2, h.d3⟩

theorem SpP.new (h : SpP w y zs zt a fp slp stp s d) (hk : Kept [] w w') : SpP w' y zs zt a fp slp stp s d := h.kept hk (by simp) (by simp) (by simp) (by simp)

/-- A deed of the device. -/
theorem SpP.turnD {fp' : List Nat} {d' : Dev} (h : SpP w y zs zt a fp slp stp s d) (hD : Dv w' a fp' d') (hk : Kept fp w w') (hn : ∀ j ∈ fp', j ∈ fp ∨ w.heap.size ≤ j) : SpP w' y zs zt a fp' slp stp s d' := by
  have fresh : ∀ {j}, j < w.heap.size → j ∉ fp → j ∉ fp' := fun hj hf hm => by
    rcases hn _ hm with e | e
    · exact hf e
    · omega
  exact ⟨(hk.block y h.yl h.y1).trans h.head, hD, h.sl.kept hk h.d1, h.st.kept hk h.d2, fresh h.yl h.y1, h.y2, h.y3, fun j hj => fresh (h.sl.lt j hj) (h.d1 j hj), fun j hj => fresh (h.st.lt j hj) (h.d2 j hj), h.d3⟩

/-- A deed of the strip. -/
theorem SpP.turnS {fp' stp' : List Nat} {st' : St} {d' : Dev} (h : SpP w y zs zt a fp slp stp s d) (hD : Dv w' a fp' d') (hS : StAt w' zt a stp' st') (hk : Kept (fp ++ stp) w w') (hn : ∀ j ∈ fp', j ∈ fp ∨ w.heap.size ≤ j) (hm : ∀ j ∈ stp', j ∈ stp ∨ w.heap.size ≤ j) (hd : ∀ j ∈ stp', j ∉ fp') :
    SpP w' y zs zt a fp' slp stp' { s with st := st' } d' := by
  have f1 : ∀ {j}, j < w.heap.size → j ∉ fp → j ∉ fp' := fun hj hf hm => by
    rcases hn _ hm with e | e
    · exact hf e
    · omega
  have f2 : ∀ {j}, j < w.heap.size → j ∉ stp → j ∉ stp' := fun hj hf hm' => by
    rcases hm _ hm' with e | e
    · exact hf e
    · omega
  exact ⟨(hk.block y h.yl (by simp [h.y1, h.y3])).trans h.head, hD, h.sl.kept hk (fun j hj => by simp [h.d1 j hj, h.d3 j hj]), hS, f1 h.yl h.y1, h.y2, f2 h.yl h.y3, fun j hj => f1 (h.sl.lt j hj) (h.d1 j hj), hd, fun j hj => f2 (h.sl.lt j hj) (h.d3 j hj)⟩

/-- A deed of the slots. -/
theorem SpP.turnL {fp' slp' : List Nat} {sl' : Sl} {d' : Dev} (h : SpP w y zs zt a fp slp stp s d) (hD : Dv w' a fp' d') (hS : TwAt w' zs a slp' sl') (hk : Kept (fp ++ slp) w w') (hn : ∀ j ∈ fp', j ∈ fp ∨ w.heap.size ≤ j) (hm : ∀ j ∈ slp', j ∈ slp ∨ w.heap.size ≤ j) (hd : ∀ j ∈ slp', j ∉ fp') :
    SpP w' y zs zt a fp' slp' stp { s with sl := sl' } d' := by
  have f1 : ∀ {j}, j < w.heap.size → j ∉ fp → j ∉ fp' := fun hj hf hm => by
    rcases hn _ hm with e | e
    · exact hf e
    · omega
  have f2 : ∀ {j}, j < w.heap.size → j ∉ slp → j ∉ slp' := fun hj hf hm' => by
    rcases hm _ hm' with e | e
    · exact hf e
    · omega
  exact ⟨(hk.block y h.yl (by simp [h.y1, h.y2])).trans h.head, hD, hS, h.st.kept hk (fun j hj => by simp only [List.mem_append, not_or]; exact ⟨h.d2 j hj, fun hm => h.d3 j hm hj⟩), f1 h.yl h.y1, f2 h.yl h.y2, h.y3, hd, fun j hj => f1 (h.st.lt j hj) (h.d2 j hj), fun j hj hm' => by
    rcases hm j hj with e | e
    · exact h.d3 j e hm'
    · have := h.st.lt j hm'; omega⟩

/-- The log's own block is written. -/
theorem SpP.put {s' : Sp} (h : SpP w y zs zt a fp slp stp s d) (hk : Kept [y] w w') (e1 : s'.sl = s.sl) (e2 : s'.st = s.st)
    (hh : w'.heap[y]? = some (.cells #[.pointer (some ⟨a, 0, none⟩), .pointer (some ⟨zs, 0, none⟩), .pointer (some ⟨zt, 0, none⟩), .int .i64 s'.first, .int .i64 s'.each, .int .i64 s'.half, .int .i64 s'.many, .bool s'.added, .bool s'.broken] 140 (0, 0))) : SpP w' y zs zt a fp slp stp s' d :=
  ⟨hh, h.dv.kept hk (fun j hj hm => h.y1 (by simp at hm; exact hm ▸ hj)), e1 ▸ h.sl.kept hk (fun j hj hm => h.y2 (by simp at hm; exact hm ▸ hj)), e2 ▸ h.st.kept hk (fun j hj hm => h.y3 (by simp at hm; exact hm ▸ hj)), h.y1, h.y2, h.y3, h.d1, h.d2, h.d3⟩

theorem SpP.cells (h : SpP w y zs zt a fp slp stp s d) : w.cell? ⟨y, 0, none⟩ = some (.pointer (some ⟨a, 0, none⟩)) ∧ w.cell? ⟨y, 1, none⟩ = some (.pointer (some ⟨zs, 0, none⟩)) ∧ w.cell? ⟨y, 2, none⟩ = some (.pointer (some ⟨zt, 0, none⟩)) ∧
    w.cell? ⟨y, 3, none⟩ = some (.int .i64 s.first) ∧ w.cell? ⟨y, 4, none⟩ = some (.int .i64 s.each) ∧ w.cell? ⟨y, 5, none⟩ = some (.int .i64 s.half) ∧ w.cell? ⟨y, 6, none⟩ = some (.int .i64 s.many) ∧ w.cell? ⟨y, 7, none⟩ = some (.bool s.added) ∧ w.cell? ⟨y, 8, none⟩ = some (.bool s.broken) ∧ ∀ i, w.frozen? ⟨y, i, none⟩ = false :=
  ⟨blk_cell h.head 0, blk_cell h.head 1, blk_cell h.head 2, blk_cell h.head 3, blk_cell h.head 4, blk_cell h.head 5, blk_cell h.head 6, blk_cell h.head 7, blk_cell h.head 8, fun i => blk_frozen h.head i⟩
end

/-- The log s on the device d, its blocks among F. -/
structure SpAt (w : World) (y a : Nat) (F : List Nat) (s : Sp) (d : Dev) : Prop where
  parts : ∃ zs zt fp slp stp, SpP w y zs zt a fp slp stp s d ∧ ∀ j, j = y ∨ j ∈ fp ∨ j ∈ slp ∨ j ∈ stp → j ∈ F
  lt : ∀ j ∈ F, j < w.heap.size

theorem SpP.at_ {w : World} {y zs zt a : Nat} {fp slp stp : List Nat} {s : Sp} {d : Dev} (h : SpP w y zs zt a fp slp stp s d) : SpAt w y a (y :: (fp ++ slp ++ stp)) s d :=
  ⟨⟨zs, zt, fp, slp, stp, h, fun j hj => by simpa [or_assoc] using hj⟩, fun j hj => by
    simp only [List.mem_cons, List.mem_append] at hj
    rcases hj with rfl | (hj | hj) | hj
    · exact h.yl
    · exact h.dv.lt j hj
    · exact h.sl.lt j hj
    · exact h.st.lt j hj⟩

theorem SpAt.new {w w' : World} {y a : Nat} {F : List Nat} {s : Sp} {d : Dev} (h : SpAt w y a F s d) (hk : Kept [] w w') : SpAt w' y a F s d := by
  obtain ⟨zs, zt, fp, slp, stp, h1, h2⟩ := h.parts
  exact ⟨⟨zs, zt, fp, slp, stp, h1.new hk, h2⟩, fun j hj => Nat.lt_of_lt_of_le (h.lt j hj) hk.size⟩

/-- A deed of a log: what it answers; what it is behind. -/
def SpPost (w : World) (y a : Nat) (F : List Nat) (s : Sp) (d : Dev) (n : Int) (e : Ending) (w' : World) : Prop :=
  e = .returned (.int .i64 n) ∧ ∃ F', SpAt w' y a F' s d ∧ Step F F' w w'

/-- The same with the parts at hand. -/
def SpPP (w : World) (y zs zt a : Nat) (fp slp stp : List Nat) (s : Sp) (d : Dev) (n : Int) (e : Ending) (w' : World) : Prop :=
  e = .returned (.int .i64 n) ∧ ∃ zt' fp' slp' stp', SpP w' y zs zt' a fp' slp' stp' s d ∧ Kept (y :: (fp ++ slp ++ stp)) w w' ∧ (∀ j ∈ fp', j ∈ fp ∨ w.heap.size ≤ j) ∧ (∀ j ∈ slp', j ∈ slp ∨ w.heap.size ≤ j) ∧ ∀ j ∈ stp', j ∈ stp ∨ w.heap.size ≤ j

theorem SpAt.deed {w : World} {y a : Nat} {F : List Nat} {s s' : Sp} {d d' : Dev} {n : Int} {f : FuncId} {args : Array Value} (h : SpAt w y a F s d) (hc : ∀ zs zt fp slp stp, SpP w y zs zt a fp slp stp s d → (∀ j ∈ fp, j ∈ F) → Calls Try.prog f args w (SpPP w y zs zt a fp slp stp s' d' n)) :
    Calls Try.prog f args w (SpPost w y a F s' d' n) := by
  obtain ⟨zs, zt, fp, slp, stp, h1, h2⟩ := h.parts
  refine (hc zs zt fp slp stp h1 (fun j hj => h2 j (.inr (.inl hj)))).mono ?_
  rintro e w' ⟨rfl, zt', fp', slp', stp', g1, g2, g3, g4, g5⟩
  refine ⟨rfl, _, g1.at_, g2.mono (fun i hi => .inl (h2 i (by simpa [or_assoc] using hi))), fun j hj => ?_⟩
  simp only [List.mem_cons, List.mem_append] at hj
  rcases hj with rfl | (hj | hj) | hj
  · exact .inl (h2 _ (.inl rfl))
  · rcases g3 j hj with e | e
    · exact .inl (h2 j (.inr (.inl e)))
    · exact .inr e
  · rcases g4 j hj with e | e
    · exact .inl (h2 j (.inr (.inr (.inl e))))
    · exact .inr e
  · rcases g5 j hj with e | e
    · exact .inl (h2 j (.inr (.inr (.inr e))))
    · exact .inr e

/-- What is told of what is wrong. -/
def WrPost (w : World) (y zs zt a : Nat) (fp slp stp : List Nat) (s : Sp) (d : Dev) (n : Int) (e : Ending) (w' : World) : Prop :=
  e = .returned (.int .i64 n) ∧ SpP w' y zs zt a fp slp stp s d ∧ Kept [y] w w'

section
variable {w : World} {y zs zt a : Nat} {fp slp stp : List Nat} {s : Sp} {d : Dev}

set_option maxHeartbeats 1000000 in
theorem spoolWrong_any (h : SpP w y zs zt a fp slp stp s d) : Calls Try.prog 98 #[.pointer (some ⟨y, 0, none⟩)] w (WrPost w y zs zt a fp slp stp (s.touch d) d (if s.wrong d then 100 else 0)) := by
  have cd := dead_dv h.dv
  have hk := Kept.setCell (F := [y]) (w := w) (p := ⟨y, 8, none⟩) (by simp) (.bool (s.broken || d.dead))
  have hP : SpP (w.setCell ⟨y, 8, none⟩ (.bool (s.broken || d.dead))) y zs zt a fp slp stp (s.touch d) d := h.put hk rfl rfl (heap_set h.head 8 _)
  have fin : ∀ e, e = .returned (.int .i64 (if s.wrong d then 100 else 0)) → WrPost w y zs zt a fp slp stp (s.touch d) d (if s.wrong d then 100 else 0) e (w.setCell ⟨y, 8, none⟩ (.bool (s.broken || d.dead))) := fun e he =>
    ⟨he, hP, hk⟩
  obtain ⟨c0, c1, c2, c3, c4, c5, c6, c7, c8, cf⟩ := h.cells
  unfold Sp.wrong at fin ⊢
  cases hb : s.broken with
  | true =>
    rw [hb] at c8 fin
    simp only [Bool.true_or, if_true] at fin ⊢
    have FIN := Lib.hid fin
    clear hb hP hk fin c1 c2 c3 c4 c5 c6 c7
    go_enter Try.func98, Try.ntmps98
    go_wp2_with fail
    go_ret
    exact FIN.out _ rfl
  | false =>
    rw [hb] at c8 fin
    simp only [Bool.false_or] at fin ⊢
    cases hd : d.dead with
    | true =>
      rw [hd] at cd fin
      have FIN := Lib.hid fin
      clear hb hd hP hk fin c1 c2 c3 c4 c5 c6 c7
      go_enter Try.func98, Try.ntmps98
      go_wp2_with fail
      refine cd.mono ?_
      rintro e w1 ⟨rfl, rfl⟩
      go_wp2_with fail
      go_ret
      exact FIN.out _ rfl
    | false =>
      rw [hd] at cd fin
      have FIN := Lib.hid fin
      clear hb hd hP hk fin c1 c2 c3 c4 c5 c6 c7
      go_enter Try.func98, Try.ntmps98
      go_wp2_with fail
      refine cd.mono ?_
      rintro e w1 ⟨rfl, rfl⟩
      go_wp2_with fail
      go_ret
      exact FIN.out _ rfl
end
end Go.Proofs.Ytbnflbkaogpnbaa
