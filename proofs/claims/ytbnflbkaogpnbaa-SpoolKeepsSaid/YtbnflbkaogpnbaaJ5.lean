/- A log in memory: what is told of it. -/
import Derived.Test.YtbnflbkaogpnbaaJ4
namespace Go.Proofs.Ytbnflbkaogpnbaa
set_option linter.unusedVariables false
open Go.RowKit

section
variable {w : World} {y zs zt a : Nat} {fp slp stp : List Nat} {s : Sp} {d : Dev}

theorem wrong_yes (h : SpP w y zs zt a fp slp stp s d) (hw : s.wrong d = true) : Calls Try.prog 98 #[.pointer (some ⟨y, 0, none⟩)] w (WrPost w y zs zt a fp slp stp (s.touch d) d 100) := by
  have := spoolWrong_any h
  rw [if_pos hw] at this
  exact this

theorem touch_no (hw : s.wrong d = false) : s.touch d = s := by
  unfold Sp.wrong at hw
  unfold Sp.touch
  rw [hw]
  have : s.broken = false := by
    cases hb : s.broken with
    | false => rfl
    | true => rw [hb] at hw; cases hw
  rw [← this]

theorem wrong_no (h : SpP w y zs zt a fp slp stp s d) (hw : s.wrong d = false) : Calls Try.prog 98 #[.pointer (some ⟨y, 0, none⟩)] w (WrPost w y zs zt a fp slp stp s d 0) := by
  have := spoolWrong_any h
  rw [if_neg (by rw [hw]; decide), touch_no hw] at this
  exact this

/-- What is told of a log. -/
def TlPost (w : World) (y zs zt a : Nat) (fp slp stp : List Nat) (s : Sp) (d : Dev) (v : Value) (e : Ending) (w' : World) : Prop :=
  e = .returned v ∧ SpP w' y zs zt a fp slp stp (s.touch d) d ∧ Kept [y] w w'

set_option maxHeartbeats 1000000 in
theorem spoolUp_any (h : SpP w y zs zt a fp slp stp s d) : Calls Try.prog 100 #[.pointer (some ⟨y, 0, none⟩)] w (TlPost w y zs zt a fp slp stp s d (.bool (!s.wrong d))) := by
  cases hw : s.wrong d with
  | true =>
    have cw := wrong_yes h hw
    go_enter Try.func100, Try.ntmps100
    go_wp2_with fail
    refine cw.mono ?_
    rintro e w1 ⟨rfl, hP1, hk1⟩
    go_wp2_with fail
    go_ret
    exact ⟨rfl, hP1, hk1⟩
  | false =>
    have cw := wrong_no h hw
    go_enter Try.func100, Try.ntmps100
    go_wp2_with fail
    refine cw.mono ?_
    rintro e w1 ⟨rfl, hP1, hk1⟩
    go_wp2_with fail
    go_ret
    exact ⟨rfl, by rw [touch_no hw]; exact hP1, hk1⟩

set_option maxHeartbeats 1000000 in
theorem spoolLen_any (h : SpP w y zs zt a fp slp stp s d) (hw : s.wrong d = false) : Calls Try.prog 62 #[.pointer (some ⟨y, 0, none⟩)] w (TlPost w y zs zt a fp slp stp s d (.int .i64 s.many)) := by
  have cu := spoolUp_any h
  rw [hw] at cu
  go_enter Try.func62, Try.ntmps62
  go_wp2_with fail
  refine cu.mono ?_
  rintro e w1 ⟨rfl, hP1, hk1⟩
  have c6 : w1.cell? ⟨y, 6, none⟩ = some (.int .i64 s.many) := hP1.cells.2.2.2.2.2.2.1
  go_wp2_with fail
  go_ret
  exact ⟨rfl, hP1, hk1⟩

set_option maxHeartbeats 1000000 in
theorem spoolHalf_any (h : SpP w y zs zt a fp slp stp s d) (hw : s.wrong d = false) : Calls Try.prog 103 #[.pointer (some ⟨y, 0, none⟩)] w (TlPost w y zs zt a fp slp stp s d (.int .i64 s.half)) := by
  have cu := spoolUp_any h
  rw [hw] at cu
  go_enter Try.func103, Try.ntmps103
  go_wp2_with fail
  refine cu.mono ?_
  rintro e w1 ⟨rfl, hP1, hk1⟩
  have c6 : w1.cell? ⟨y, 5, none⟩ = some (.int .i64 s.half) := hP1.cells.2.2.2.2.2.1
  go_wp2_with fail
  go_ret
  exact ⟨rfl, hP1, hk1⟩

set_option maxHeartbeats 1000000 in
theorem spoolLeft_any (h : SpP w y zs zt a fp slp stp s d) (hw : s.wrong d = false) (hm : s.st.many ≤ 10000) (hf : s.st.fin ≤ 128 * s.st.many) : Calls Try.prog 101 #[.pointer (some ⟨y, 0, none⟩)] w (TlPost w y zs zt a fp slp stp s d (.int .i64 (128 * s.st.many - s.st.fin))) := by
  have cu := spoolUp_any h
  rw [hw] at cu
  go_enter Try.func101, Try.ntmps101
  go_wp2_with fail
  refine cu.mono ?_
  rintro e w1 ⟨rfl, hP1, hk1⟩
  have c2 : w1.cell? ⟨y, 2, none⟩ = some (.pointer (some ⟨zt, 0, none⟩)) := hP1.cells.2.2.1
  go_wp2_with fail
  refine (stripLeft_any hP1.st hm hf).mono ?_
  rintro e w2 ⟨rfl, q, rfl⟩
  go_wp2_with fail
  go_ret
  exact ⟨rfl, hP1.new (Kept.drewN [] w1 q), hk1.trans (Kept.drewN [y] w1 q)⟩
end

/-- A step of a log's blocks. -/
structure SpS (w w' : World) (y : Nat) (fp slp stp fp' slp' stp' : List Nat) : Prop where
  kept : Kept (y :: (fp ++ slp ++ stp)) w w'
  f : ∀ j ∈ fp', j ∈ fp ∨ w.heap.size ≤ j
  l : ∀ j ∈ slp', j ∈ slp ∨ w.heap.size ≤ j
  t : ∀ j ∈ stp', j ∈ stp ∨ w.heap.size ≤ j

theorem SpS.own {w w' : World} {y : Nat} {fp slp stp : List Nat} (hk : Kept [y] w w') : SpS w w' y fp slp stp fp slp stp :=
  ⟨hk.mono (fun i hi => .inl (by simp at hi; simp [hi])), fun j hj => .inl hj, fun j hj => .inl hj, fun j hj => .inl hj⟩

theorem SpS.new {w w' : World} {y : Nat} {fp slp stp : List Nat} (hk : Kept [] w w') : SpS w w' y fp slp stp fp slp stp :=
  ⟨hk.mono (fun i hi => by simp at hi), fun j hj => .inl hj, fun j hj => .inl hj, fun j hj => .inl hj⟩

theorem SpS.trans {w w1 w2 : World} {y : Nat} {fp slp stp fp1 slp1 stp1 fp2 slp2 stp2 : List Nat} (h : SpS w w1 y fp slp stp fp1 slp1 stp1) (g : SpS w1 w2 y fp1 slp1 stp1 fp2 slp2 stp2) : SpS w w2 y fp slp stp fp2 slp2 stp2 := by
  have hs := h.kept.size
  refine ⟨h.kept.trans' g.kept (fun i hi => ?_), fun j hj => ?_, fun j hj => ?_, fun j hj => ?_⟩
  · simp only [List.mem_cons, List.mem_append] at hi ⊢
    rcases hi with rfl | (hi | hi) | hi
    · exact .inl (.inl rfl)
    · rcases h.f i hi with e | e
      · exact .inl (.inr (.inl (.inl e)))
      · exact .inr e
    · rcases h.l i hi with e | e
      · exact .inl (.inr (.inl (.inr e)))
      · exact .inr e
    · rcases h.t i hi with e | e
      · exact .inl (.inr (.inr e))
      · exact .inr e
  · rcases g.f j hj with e | e
    · exact h.f j e
    · exact .inr (by omega)
  · rcases g.l j hj with e | e
    · exact h.l j e
    · exact .inr (by omega)
  · rcases g.t j hj with e | e
    · exact h.t j e
    · exact .inr (by omega)

theorem SpS.dev {w w' : World} {y : Nat} {fp slp stp fp' : List Nat} (hk : Kept fp w w') (hn : ∀ j ∈ fp', j ∈ fp ∨ w.heap.size ≤ j) : SpS w w' y fp slp stp fp' slp stp :=
  ⟨hk.mono (fun i hi => .inl (by simp [hi])), hn, fun j hj => .inl hj, fun j hj => .inl hj⟩

theorem SpS.strip {w w' : World} {y : Nat} {fp slp stp fp' stp' : List Nat} (hk : Kept (fp ++ stp) w w') (hn : ∀ j ∈ fp', j ∈ fp ∨ w.heap.size ≤ j) (hm : ∀ j ∈ stp', j ∈ stp ∨ w.heap.size ≤ j) : SpS w w' y fp slp stp fp' slp stp' :=
  ⟨hk.mono (fun i hi => .inl (by simp at hi; rcases hi with hi | hi <;> simp [hi])), hn, fun j hj => .inl hj, hm⟩

theorem SpS.slots {w w' : World} {y : Nat} {fp slp stp fp' slp' : List Nat} (hk : Kept (fp ++ slp) w w') (hn : ∀ j ∈ fp', j ∈ fp ∨ w.heap.size ≤ j) (hm : ∀ j ∈ slp', j ∈ slp ∨ w.heap.size ≤ j) : SpS w w' y fp slp stp fp' slp' stp :=
  ⟨hk.mono (fun i hi => .inl (by simp at hi; rcases hi with hi | hi <;> simp [hi])), hn, hm, fun j hj => .inl hj⟩

theorem SpPP.of {w w' : World} {y zs zt a zt' : Nat} {fp slp stp fp' slp' stp' : List Nat} {s : Sp} {d : Dev} {n : Int} (hP : SpP w' y zs zt' a fp' slp' stp' s d) (hS : SpS w w' y fp slp stp fp' slp' stp') : SpPP w y zs zt a fp slp stp s d n (.returned (.int .i64 n)) w' :=
  ⟨rfl, zt', fp', slp', stp', hP, hS.kept, hS.f, hS.l, hS.t⟩

theorem SpPP.parts {w w' : World} {y zs zt a : Nat} {fp slp stp : List Nat} {s : Sp} {d : Dev} {n : Int} {e : Ending} (h : SpPP w y zs zt a fp slp stp s d n e w') : e = .returned (.int .i64 n) ∧ ∃ zt' fp' slp' stp', SpP w' y zs zt' a fp' slp' stp' s d ∧ SpS w w' y fp slp stp fp' slp' stp' := by
  obtain ⟨h1, zt', fp', slp', stp', h2, h3, h4, h5, h6⟩ := h
  exact ⟨h1, zt', fp', slp', stp', h2, ⟨h3, h4, h5, h6⟩⟩

/-- The same, where the strip's place does not turn. -/
def SpPZ (w : World) (y zs zt a : Nat) (fp slp stp : List Nat) (s : Sp) (d : Dev) (n : Int) (e : Ending) (w' : World) : Prop :=
  e = .returned (.int .i64 n) ∧ ∃ fp' slp' stp', SpP w' y zs zt a fp' slp' stp' s d ∧ SpS w w' y fp slp stp fp' slp' stp'

theorem SpPZ.of {w w' : World} {y zs zt a : Nat} {fp slp stp fp' slp' stp' : List Nat} {s : Sp} {d : Dev} {n : Int} (hP : SpP w' y zs zt a fp' slp' stp' s d) (hS : SpS w w' y fp slp stp fp' slp' stp') : SpPZ w y zs zt a fp slp stp s d n (.returned (.int .i64 n)) w' :=
  ⟨rfl, fp', slp', stp', hP, hS⟩

theorem SpPZ.weak {w w' : World} {y zs zt a : Nat} {fp slp stp : List Nat} {s : Sp} {d : Dev} {n : Int} {e : Ending} (h : SpPZ w y zs zt a fp slp stp s d n e w') : SpPP w y zs zt a fp slp stp s d n e w' := by
  obtain ⟨rfl, fp', slp', stp', h1, h2⟩ := h
  exact .of h1 h2
end Go.Proofs.Ytbnflbkaogpnbaa
