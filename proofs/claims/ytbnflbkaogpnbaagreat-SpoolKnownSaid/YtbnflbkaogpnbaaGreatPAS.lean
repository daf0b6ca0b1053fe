/- Texts in one: J5 J6 J7. -/
import Derived.Test.YtbnflbkaogpnbaaGreatPAR
import Derived.Deep.RegionLaw
import Derived.OrdersHeld
namespace Go.Proofs.YtbnflbkaogpnbaaGreat
set_option linter.unusedVariables false
open Go.RowKit
section
variable {w : World} {y zs zt a : Nat} {fp slp stp : List Nat} {s : Sp} {d : Dev}
theorem wrong_yes (h : SpP w y zs zt a fp slp stp s d) (hw : s.wrong d = true) : Calls Tryz.prog 17 #[.pointer (some ⟨y, 0, none⟩)] w (WrPost w y zs zt a fp slp stp (s.touch d) d 100) := by
 have := spoolWrong_any h
 rw [if_pos hw] at this
 exact this
theorem touch_no (hw : s.wrong d = false) : s.touch d = s := by
 unfold Sp.wrong at hw
 unfold Sp.touch
 rw [hw]
 have : s.broken = false := by
  cases hb : s.broken with
  | false => rfl
  | true => rw [hb] at hw; cases hw
 rw [← this]
theorem wrong_no (h : SpP w y zs zt a fp slp stp s d) (hw : s.wrong d = false) : Calls Tryz.prog 17 #[.pointer (some ⟨y, 0, none⟩)] w (WrPost w y zs zt a fp slp stp s d 0) := by
 have := spoolWrong_any h
 rw [if_neg (by rw [hw]; decide), touch_no hw] at this
 exact this
/-- What is told of a log. -/
def TlPost (w : World) (y zs zt a : Nat) (fp slp stp : List Nat) (s : Sp) (d : Dev) (v : Value) (e : Ending) (w' : World) : Prop :=
 e = .returned v ∧ SpP w' y zs zt a fp slp stp (s.touch d) d ∧ Kept [y] w w'
set_option maxHeartbeats 1000000 in
theorem spoolUp_any (h : SpP w y zs zt a fp slp stp s d) : Calls Tryz.prog 23 #[.pointer (some ⟨y, 0, none⟩)] w (TlPost w y zs zt a fp slp stp s d (.bool (!s.wrong d))) := by
 cases hw : s.wrong d with
 | true =>
  have cw := wrong_yes h hw
  go_enter Tryz.func23, Tryz.ntmps23
  go_wp2_with fail
  refine cw.mono ?_
  rintro e w1 ⟨rfl, hP1, hk1⟩
  go_wp2_with fail
  go_ret
  exact ⟨rfl, hP1, hk1⟩
 | false =>
  have cw := wrong_no h hw
  go_enter Tryz.func23, Tryz.ntmps23
  go_wp2_with fail
  refine cw.mono ?_
  rintro e w1 ⟨rfl, hP1, hk1⟩
  go_wp2_with fail
  go_ret
  exact ⟨rfl, by rw [touch_no hw]; exact hP1, hk1⟩
set_option maxHeartbeats 1000000 in
theorem spoolLen_any (h : SpP w y zs zt a fp slp stp s d) (hw : s.wrong d = false) : Calls Tryz.prog 7 #[.pointer (some ⟨y, 0, none⟩)] w (TlPost w y zs zt a fp slp stp s d (.int .i64 s.many)) := by
 have cu := spoolUp_any h
 rw [hw] at cu
 go_enter Tryz.func7, Tryz.ntmps7
 go_wp2_with fail
 refine cu.mono ?_
 rintro e w1 ⟨rfl, hP1, hk1⟩
 have c6 : w1.cell? ⟨y, 6, none⟩ = some (.int .i64 s.many) := hP1.cells.2.2.2.2.2.2.1
 go_wp2_with fail
 go_ret
 exact ⟨rfl, hP1, hk1⟩
set_option maxHeartbeats 1000000 in
theorem spoolHalf_any (h : SpP w y zs zt a fp slp stp s d) (hw : s.wrong d = false) : Calls Tryz.prog 9 #[.pointer (some ⟨y, 0, none⟩)] w (TlPost w y zs zt a fp slp stp s d (.int .i64 s.half)) := by
 have cu := spoolUp_any h
 rw [hw] at cu
 go_enter Tryz.func9, Tryz.ntmps9
 go_wp2_with fail
 refine cu.mono ?_
 rintro e w1 ⟨rfl, hP1, hk1⟩
 have c6 : w1.cell? ⟨y, 5, none⟩ = some (.int .i64 s.half) := hP1.cells.2.2.2.2.2.1
 go_wp2_with fail
 go_ret
 exact ⟨rfl, hP1, hk1⟩
set_option maxHeartbeats 1000000 in
theorem spoolLeft_any (h : SpP w y zs zt a fp slp stp s d) (hw : s.wrong d = false) (hm : s.st.many ≤ 10000) (hf : s.st.fin ≤ 128 * s.st.many) : Calls Tryz.prog 8 #[.pointer (some ⟨y, 0, none⟩)] w (TlPost w y zs zt a fp slp stp s d (.int .i64 (128 * s.st.many - s.st.fin))) := by
 have cu := spoolUp_any h
 rw [hw] at cu
 go_enter Tryz.func8, Tryz.ntmps8
 go_wp2_with fail
 refine cu.mono ?_
 rintro e w1 ⟨rfl, hP1, hk1⟩
 have c2 : w1.cell? ⟨y, 2, none⟩ = some (.pointer (some ⟨zt, 0, none⟩)) := hP1.cells.2.2.1
 go_wp2_with fail
 refine (stripLeft_any hP1.st hm hf).mono ?_
 rintro e w2 ⟨rfl, q, rfl⟩
 go_wp2_with fail
 go_ret
 exact ⟨rfl, hP1.new (Kept.drewN [] w1 q), hk1.trans (Kept.drewN [y] w1 q)⟩
end
/-- A step of a log's blocks. -/
structure SpS (w w' : World) (y : Nat) (fp slp stp fp' slp' stp' : List Nat) : Prop where
 kept : Kept (y :: (fp ++ slp ++ stp)) w w'
 f : ∀ j ∈ fp', j ∈ fp ∨ w.heap.size ≤ j
 l : ∀ j ∈ slp', j ∈ slp ∨ w.heap.size ≤ j
 t : ∀ j ∈ stp', j ∈ stp ∨ w.heap.size ≤ j
theorem SpS.own {w w' : World} {y : Nat} {fp slp stp : List Nat} (hk : Kept [y] w w') : SpS w w' y fp slp stp fp slp stp :=
 ⟨hk.mono (fun i hi => .inl (by simp at hi; simp [hi])), fun j hj => .inl hj, fun j hj => .inl hj, fun j hj => .inl hj⟩
theorem SpS.new {w w' : World} {y : Nat} {fp slp stp : List Nat} (hk : Kept [] w w') : SpS w w' y fp slp stp fp slp stp :=
 ⟨hk.mono (fun i hi => by simp at hi), fun j hj => .inl hj, fun j hj => .inl hj, fun j hj => .inl hj⟩
theorem SpS.trans {w w1 w2 : World} {y : Nat} {fp slp stp fp1 slp1 stp1 fp2 slp2 stp2 : List Nat} (h : SpS w w1 y fp slp stp fp1 slp1 stp1) (g : SpS w1 w2 y fp1 slp1 stp1 fp2 slp2 stp2) : SpS w w2 y fp slp stp fp2 slp2 stp2 := by
 have hs := h.kept.size
 refine ⟨h.kept.trans' g.kept (fun i hi => ?_), fun j hj => ?_, fun j hj => ?_, fun j hj => ?_⟩
 ·simp only [List.mem_cons, List.mem_append] at hi ⊢
  rcases hi with rfl | (hi | hi) | hi
  ·exact .inl (.inl rfl)
  ·rcases h.f i hi with e | e
   ·exact .inl (.inr (.inl (.inl e)))
   ·exact .inr e
  ·rcases h.l i hi with e | e
   ·exact .inl (.inr (.inl (.inr e)))
   ·exact .inr e
  ·rcases h.t i hi with e | e
   ·exact .inl (.inr (.inr e))
   ·exact .inr e
 ·rcases g.f j hj with e | e
  ·exact h.f j e
  ·exact .inr (by omega)
 ·rcases g.l j hj with e | e
  ·exact h.l j e
  ·exact .inr (by omega)
 ·rcases g.t j hj with e | e
  ·exact h.t j e
  ·exact .inr (by omega)
theorem SpS.dev {w w' : World} {y : Nat} {fp slp stp fp' : List Nat} (hk : Kept fp w w') (hn : ∀ j ∈ fp', j ∈ fp ∨ w.heap.size ≤ j) : SpS w w' y fp slp stp fp' slp stp :=
 ⟨hk.mono (fun i hi => .inl (by simp [hi])), hn, fun j hj => .inl hj, fun j hj => .inl hj⟩
theorem SpS.strip {w w' : World} {y : Nat} {fp slp stp fp' stp' : List Nat} (hk : Kept (fp ++ stp) w w') (hn : ∀ j ∈ fp', j ∈ fp ∨ w.heap.size ≤ j) (hm : ∀ j ∈ stp', j ∈ stp ∨ w.heap.size ≤ j) : SpS w w' y fp slp stp fp' slp stp' :=
 ⟨hk.mono (fun i hi => .inl (by simp at hi; rcases hi with hi | hi <;> simp [hi])), hn, fun j hj => .inl hj, hm⟩
theorem SpS.slots {w w' : World} {y : Nat} {fp slp stp fp' slp' : List Nat} (hk : Kept (fp ++ slp) w w') (hn : ∀ j ∈ fp', j ∈ fp ∨ w.heap.size ≤ j) (hm : ∀ j ∈ slp', j ∈ slp ∨ w.heap.size ≤ j) : SpS w w' y fp slp stp fp' slp' stp :=
 ⟨hk.mono (fun i hi => .inl (by simp at hi; rcases hi with hi | hi <;> simp [hi])), hn, hm, fun j hj => .inl hj⟩
theorem SpPP.of {w w' : World} {y zs zt a zt' : Nat} {fp slp stp fp' slp' stp' : List Nat} {s : Sp} {d : Dev} {n : Int} (hP : SpP w' y zs zt' a fp' slp' stp' s d) (hS : SpS w w' y fp slp stp fp' slp' stp') : SpPP w y zs zt a fp slp stp s d n (.returned (.int .i64 n)) w' :=
 ⟨rfl, zt', fp', slp', stp', hP, hS.kept, hS.f, hS.l, hS.t⟩
theorem SpPP.parts {w w' : World} {y zs zt a : Nat} {fp slp stp : List Nat} {s : Sp} {d : Dev} {n : Int} {e : Ending} (h : SpPP w y zs zt a fp slp stp s d n e w') : e = .returned (.int .i64 n) ∧ ∃ zt' fp' slp' stp', SpP w' y zs zt' a fp' slp' stp' s d ∧ SpS w w' y fp slp stp fp' slp' stp' := by
 obtain ⟨h1, zt', fp', slp', stp', h2, h3, h4, h5, h6⟩ := h
 exact ⟨h1, zt', fp', slp', stp', h2, ⟨h3, h4, h5, h6⟩⟩
/-- The same, where the strip's place does not turn. -/
def SpPZ (w : World) (y zs zt a : Nat) (fp slp stp : List Nat) (s : Sp) (d : Dev) (n : Int) (e : Ending) (w' : World) : Prop :=
 e = .returned (.int .i64 n) ∧ ∃ fp' slp' stp', SpP w' y zs zt a fp' slp' stp' s d ∧ SpS w w' y fp slp stp fp' slp' stp'
theorem SpPZ.of {w w' : World} {y zs zt a : Nat} {fp slp stp fp' slp' stp' : List Nat} {s : Sp} {d : Dev} {n : Int} (hP : SpP w' y zs zt a fp' slp' stp' s d) (hS : SpS w w' y fp slp stp fp' slp' stp') : SpPZ w y zs zt a fp slp stp s d n (.returned (.int .i64 n)) w' :=
 ⟨rfl, fp', slp', stp', hP, hS⟩
theorem SpPZ.weak {w w' : World} {y zs zt a : Nat} {fp slp stp : List Nat} {s : Sp} {d : Dev} {n : Int} {e : Ending} (h : SpPZ w y zs zt a fp slp stp s d n e w') : SpPP w y zs zt a fp slp stp s d n e w' := by
 obtain ⟨rfl, fp', slp', stp', h1, h2⟩ := h
 exact .of h1 h2
end Go.Proofs.YtbnflbkaogpnbaaGreat
namespace Go.Proofs.YtbnflbkaogpnbaaGreat
set_option linter.unusedVariables false
open Go.RowKit
theorem frozen_put {w : World} {y zs zt a : Nat} {fp slp stp : List Nat} {s : Sp} {d : Dev} (h : SpP w y zs zt a fp slp stp s d) {s' : Sp} (e1 : s'.sl = s.sl) (e2 : s'.st = s.st) (e3 : s'.first = s.first) (e4 : s'.each = s.each) (e5 : s'.half = s.half) (e6 : s'.broken = s.broken) :
  SpP ((w.setCell ⟨y, 6, none⟩ (.int .i64 s'.many)).setCell ⟨y, 7, none⟩ (.bool s'.added)) y zs zt a fp slp stp s' d ∧ Kept [y] w ((w.setCell ⟨y, 6, none⟩ (.int .i64 s'.many)).setCell ⟨y, 7, none⟩ (.bool s'.added)) := by
 have hk : Kept [y] w ((w.setCell ⟨y, 6, none⟩ (.int .i64 s'.many)).setCell ⟨y, 7, none⟩ (.bool s'.added)) := (Kept.setCell (by simp) _).trans (Kept.setCell (by simp) _)
 refine ⟨h.put hk e1 e2 ?_, hk⟩
 rw [e3, e4, e5, e6]
 exact heap_set (heap_set h.head 6 _) 7 _
section
variable {w : World} {y zs zt a : Nat} {fp slp stp : List Nat} {s : Sp} {d : Dev}
set_option maxHeartbeats 1000000 in
theorem spoolAppend_any (h : SpP w y zs zt a fp slp stp s d) (hwf : s.st.Wf d) (hmany : s.many < 1000000000) (A : Option Addr) (n c : Nat) (b : List UInt8) (hb : SlAt w A n c (u8vs b)) (hA : A = none → c = 0) (hAy : ∀ p, A = some p → 0 < n → p.block ≠ y)
  (hwk : d.works < 9223372036854000000) : Calls Tryz.prog 4 #[.pointer (some ⟨y, 0, none⟩), .slice A n c] w (SpPZ w y zs zt a fp slp stp (s.append d b).1 (s.append d b).2.1 (s.append d b).2.2) := by
 cases hw : s.wrong d with
 | true =>
  have e1 : s.append d b = (s.touch d, d, 100) := by unfold Sp.append; rw [if_pos hw]
  rw [e1]
  have cw := wrong_yes h hw
  clear e1
  go_enter Tryz.func4, Tryz.ntmps4
  go_wp2_with fail
  refine cw.mono ?_
  rintro e w1 ⟨rfl, hP1, hk1⟩
  go_wp2_with fail
  go_ret
  exact .of hP1 (.own hk1)
 | false =>
  have cw := wrong_no h hw
  obtain ⟨R, hR⟩ : ∃ R, s.st.append d b = R := ⟨_, rfl⟩
  have e1 : s.append d b = if R.2.2 = 0 then ({ s with st := R.1, many := s.many + 1, added := true }, R.2.1, 0) else ({ s with st := R.1 }, R.2.1, R.2.2) := by
   unfold Sp.append; rw [if_neg (by rw [hw]; decide), hR]
  have E1 := Lib.hid e1
  clear e1
  go_enter Tryz.func4, Tryz.ntmps4
  go_wp2_with fail
  refine cw.mono ?_
  rintro e w1 ⟨rfl, hP1, hk1⟩
  have c2 : w1.cell? ⟨y, 2, none⟩ = some (.pointer (some ⟨zt, 0, none⟩)) := hP1.cells.2.2.1
  go_wp2_with fail
  refine (append_any hP1.dv hP1.st hP1.d2 hwf A n c b (hb.keptP hk1 (fun p e hn => by simpa using hAy p e hn)) hA hwk).mono ?_
  rw [hR]
  rintro e w2 ⟨rfl, fp2, stp2, hD2, hS2, hk2, hf2, hp2, hd2⟩
  have hP2 := hP1.turnS hD2 hS2 hk2 hf2 hp2 hd2
  have hs2 : SpS w w2 y fp slp stp fp2 slp stp2 := (SpS.own hk1).trans (.strip hk2 hf2 hp2)
  have HR := Lib.hid hR
  obtain ⟨s2, d2, n2⟩ := R
  simp only at hP2 E1 ⊢
  by_cases h0 : n2 = 0
  ·subst h0
   have hfin := E1.out
   rw [if_pos rfl] at hfin
   have HF := Lib.hid hfin
   clear hfin
   have hww : IntKind.i64.wrap ((s.many : Int) + 1) = (s.many : Int) + 1 := by rw [IntKind.wrap_i64]; omega
   obtain ⟨_, _, _, _, _, _, c6, c7, _, cf⟩ := hP2.cells
   replace c6 : w2.cell? ⟨y, 6, none⟩ = some (.int .i64 s.many) := c6
   clear c2 hR HR E1 hS2 hD2 hP1
   go_wp2_with fail
   go_ret
   rw [HF.out]
   obtain ⟨g1, g2⟩ := frozen_put hP2 (s' := { s with st := s2, many := s.many + 1, added := true }) rfl rfl rfl rfl rfl rfl
   rw [show ((({ s with st := s2, many := s.many + 1, added := true } : Sp).many : Nat) : Int) = (s.many : Int) + 1 by push_cast; rfl] at g1 g2
   exact .of g1 (hs2.trans (.own g2))
  ·have hnb : (n2 != 0) = true := by simpa using h0
   have hfin := E1.out
   rw [if_neg h0] at hfin
   have HF := Lib.hid hfin
   clear hfin c2 hR HR E1 h0
   go_wp2_with fail
   go_ret
   rw [HF.out]
   exact .of hP2 hs2
end
theorem Dev.flush_works (d : Dev) : d.flush.1.works ≤ d.works + 1 := by
 unfold Dev.flush
 split
 ·show d.works ≤ _
  omega
 ·split
  ·show d.works ≤ _
   omega
  ·split
   ·show d.works ≤ _
    omega
   ·show d.works + 1 ≤ _
    omega
theorem broken_put {w : World} {y zs zt a : Nat} {fp slp stp : List Nat} {s : Sp} {d : Dev} (h : SpP w y zs zt a fp slp stp s d) (b : Bool) :
  SpP (w.setCell ⟨y, 8, none⟩ (.bool b)) y zs zt a fp slp stp { s with broken := b } d ∧ Kept [y] w (w.setCell ⟨y, 8, none⟩ (.bool b)) := by
 have hk : Kept [y] w (w.setCell ⟨y, 8, none⟩ (.bool b)) := Kept.setCell (by simp) _
 exact ⟨h.put hk rfl rfl (heap_set h.head 8 _), hk⟩
section
variable {w : World} {y zs zt a : Nat} {fp slp stp : List Nat} {s : Sp} {d : Dev}
set_option maxHeartbeats 1000000 in
theorem spoolSave_any (h : SpP w y zs zt a fp slp stp s d) (half fin many : Nat) (h1 : half ≤ 1) (h2 : fin < 4294967296) (h3 : many < 4294967296) (hnw : s.sl.newer ≤ 1) (htn : s.sl.turn < 9223372036854775000) (hfi : s.sl.first < 9223372036854775000)
  (hwk : d.works < 9223372036853000000) : Calls Tryz.prog 19 #[.pointer (some ⟨y, 0, none⟩), .agg #[.int .i64 half, .int .i64 fin, .int .i64 many]] w (SpPZ w y zs zt a fp slp stp (s.save d (manB half fin many)).1 (s.save d (manB half fin many)).2.1 (s.save d (manB half fin many)).2.2) := by
 obtain ⟨m, hm⟩ : ∃ m, manB half fin many = m := ⟨_, rfl⟩
 have hml : m.length = 9 := by rw [← hm, length_manB]
 obtain ⟨Q, hQ⟩ : ∃ Q, d.flush = Q := ⟨_, rfl⟩
 obtain ⟨R, hR⟩ : ∃ R, s.sl.save Q.1 m = R := ⟨_, rfl⟩
 have hsv : s.save d m = if Q.2 ≠ 0 then (s, Q.1, Q.2) else ({ s with sl := R.1, broken := s.broken || decide (R.2.2 ≠ 0) }, R.2.1, R.2.2) := by
  unfold Sp.save
  rw [hQ, hR]
 have cfl := fun W (h5 : Dv W a fp d) => flush_dv h5 (by omega)
 rw [hQ] at cfl
 have hQw := Dev.flush_works d
 rw [hQ] at hQw
 have cm := fun W => manBytes_any W half fin many h1 h2 h3
 rw [hm] at cm ⊢
 obtain ⟨W, hW⟩ : ∃ W, w.alloc (.cells #[.int .i64 half, .int .i64 fin, .int .i64 many] 55) = W := ⟨_, rfl⟩
 have hkW : Kept [] w W := by rw [← hW]; exact Kept.alloc [] _ _
 have hrow : W.heap[w.heap.size]? = some (.cells #[.int .i64 half, .int .i64 fin, .int .i64 many] 55 (0, 0)) := by rw [← hW]; exact heap_alloc_new _ _
 have hPW := h.new hkW
 have HSV := Lib.hid hsv; have HR := Lib.hid hR; have HM := Lib.hid hml
 clear hsv hR hm hml hQ
 obtain ⟨Qd, Qn⟩ := Q
 have c0 : W.cell? ⟨y, 0, none⟩ = some (.pointer (some ⟨a, 0, none⟩)) := hPW.cells.1
 go_enter Tryz.func19, Tryz.ntmps19
 go_wp2_with fail
 clear hW
 refine (cfl W hPW.dv).mono ?_
 rintro e w1 ⟨rfl, fp1, hD1, hk1, hf1⟩
 have hP1 := hPW.turnD hD1 hk1 hf1
 have hnf : w.heap.size ∉ fp1 := fun hm => by
  rcases hf1 _ hm with e | e
  ·exact h.dv.old (Nat.le_refl _) e
  ·have := World.lt_of_heap hrow; omega
 have hs1 : SpS w w1 y fp slp stp fp1 slp stp := (SpS.new hkW).trans (.dev hk1 hf1)
 simp only at hD1 hP1 hQw HSV HR ⊢
 clear c0
 by_cases hQ0 : Qn = 0
 ·subst hQ0
  have hrow1 := (hk1.block _ (World.lt_of_heap hrow) (h.dv.old (Nat.le_refl _))).trans hrow
  have c1 : w1.cell? ⟨y, 1, none⟩ = some (.pointer (some ⟨zs, 0, none⟩)) := hP1.cells.2.1
  go_wp2_with fail
  have b0 : w1.cell? ⟨w.heap.size, 0, none⟩ = some (.int .i64 half) := blk_cell hrow1 0
  have b1 : w1.cell? ⟨w.heap.size, 1, none⟩ = some (.int .i64 fin) := blk_cell hrow1 1
  have b2 : w1.cell? ⟨w.heap.size, 2, none⟩ = some (.int .i64 many) := blk_cell hrow1 2
  have hPd := hP1.new (Kept.drew [] w1)
  have hz1 : w.heap.size < w1.heap.size := World.lt_of_heap hrow1
  have S0 : w1.drew.cell? ⟨y, 1, none⟩ = some (.pointer (some ⟨zs, 0, none⟩)) ∧ w1.drew.cell? ⟨w.heap.size, 0, none⟩ = some (.int .i64 half) ∧ w1.drew.cell? ⟨w.heap.size, 1, none⟩ = some (.int .i64 fin) ∧ w1.drew.cell? ⟨w.heap.size, 2, none⟩ = some (.int .i64 many) := ⟨c1, b0, b1, b2⟩
  clear c1 b0 b1 b2 hrow1
  refine wp_region_calm (S := (fun W => W.cell? ⟨y, 1, none⟩ = some (.pointer (some ⟨zs, 0, none⟩)) ∧ W.cell? ⟨w.heap.size, 0, none⟩ = some (.int .i64 half) ∧ W.cell? ⟨w.heap.size, 1, none⟩ = some (.int .i64 fin) ∧ W.cell? ⟨w.heap.size, 2, none⟩ = some (.int .i64 many))) (by kernel_rfl) S0 (fun hHeld => ?_)
  refine tk (i := 0) (v := ?_) (hy := Or.inl ⟨by rfl, ?_⟩) (hS := hHeld) (h := ?_)
  rotate_left
  ·intro w hSw
   try dsimp only at hSw
   go_simp
   all_goals with_reducible rfl
  try simp only [Act.put, List.setIfInBounds_toArray, List.set_cons_zero, List.set_cons_succ]
  refine tk (i := 1) (v := ?_) (hy := Or.inl ⟨by rfl, ?_⟩) (hS := hHeld) (h := ?_)
  rotate_left
  ·intro w hSw
   try dsimp only at hSw
   go_simp
   all_goals with_reducible rfl
  try simp only [Act.put, List.setIfInBounds_toArray, List.set_cons_zero, List.set_cons_succ]
  refine tk (i := 2) (v := ?_) (hy := Or.inl ⟨by rfl, ?_⟩) (hS := hHeld) (h := ?_)
  rotate_left
  ·intro w hSw
   try dsimp only at hSw
   go_simp
   all_goals with_reducible rfl
  try simp only [Act.put, List.setIfInBounds_toArray, List.set_cons_zero, List.set_cons_succ]
  refine tk (i := 3) (v := ?_) (hy := Or.inl ⟨by rfl, ?_⟩) (hS := hHeld) (h := ?_)
  rotate_left
  ·intro w hSw
   try dsimp only at hSw
   obtain ⟨s0, s1, s2, s3⟩ := hSw
   go_simp
   all_goals with_reducible rfl
  try simp only [Act.put, List.setIfInBounds_toArray, List.set_cons_zero, List.set_cons_succ]
  refine tk (i := 4) (v := ?_) (hy := Or.inl ⟨by rfl, ?_⟩) (hS := hHeld) (h := ?_)
  rotate_left
  ·intro w hSw
   try dsimp only at hSw
   obtain ⟨s0, s1, s2, s3⟩ := hSw
   go_simp
   all_goals with_reducible rfl
  try simp only [Act.put, List.setIfInBounds_toArray, List.set_cons_zero, List.set_cons_succ]
  refine wpAnyH_ready (rs := [5]) (by kernel_rfl) (by simp) ?_
  refine AllReadyH.cons (by simp only [List.getElem?_toArray, List.getElem?_cons_succ, List.getElem?_cons_zero]; rfl) (fun K hK => ?_) AllReadyH.nil
  go_simp
  refine (cm _).mono ?_
  rintro e w5 ⟨A5, c5, rfl, hown5, hbel5⟩
  have hk5 := Kept.of_below (F := []) hbel5
  obtain ⟨hs5, hA5⟩ := ClonePost.sl hown5
  have hP5 := hPd.new hk5
  have S5 : w5.cell? ⟨y, 1, none⟩ = some (.pointer (some ⟨zs, 0, none⟩)) ∧ w5.cell? ⟨w.heap.size, 0, none⟩ = some (.int .i64 half) ∧ w5.cell? ⟨w.heap.size, 1, none⟩ = some (.int .i64 fin) ∧ w5.cell? ⟨w.heap.size, 2, none⟩ = some (.int .i64 many) := ⟨hP5.cells.2.1, (hk5.cell (p := ⟨w.heap.size, 0, none⟩) hz1 (by simp)).trans S0.2.1, (hk5.cell (p := ⟨w.heap.size, 1, none⟩) hz1 (by simp)).trans S0.2.2.1, (hk5.cell (p := ⟨w.heap.size, 2, none⟩) hz1 (by simp)).trans S0.2.2.2⟩
  have hs5w : SpS w w5 y fp slp stp fp1 slp stp := (hs1.trans (.new (Kept.drew [] w1))).trans (.new hk5)
  clear hown5 hbel5
  go_wp2_with fail
  refine hK.out _ _ ?_ (fun hHeld2 => ?_)
  ·exact S5
  clear hK K hHeld
  have hHeld := hHeld2
  clear hHeld2
  try simp only [Act.put, List.setIfInBounds_toArray, List.set_cons_zero, List.set_cons_succ]
  refine wpAnyH_ready (rs := [6]) (by kernel_rfl) (by simp) ?_
  refine AllReadyH.cons (by simp only [List.getElem?_toArray, List.getElem?_cons_succ, List.getElem?_cons_zero]; rfl) (fun K hK => ?_) AllReadyH.nil
  go_simp
  refine (slotsSave_any hP5.dv hP5.sl hP5.d1 hnw htn hfi A5 9 c5 m hs5 (by omega)).mono ?_
  rw [HR.out]
  rintro e w6 ⟨rfl, fp6, slp6, hD6, hS6, hk6, hf6, hp6, hd6⟩
  have hP6 := hP5.turnL hD6 hS6 hk6 hf6 hp6 hd6
  have hs6 := hs5w.trans (.slots hk6 hf6 hp6)
  have hold : ∀ j, j = w.heap.size → j ∉ fp1 ++ slp := fun j hj hm => by
   subst hj
   rcases List.mem_append.mp hm with e | e
   ·rcases hs1.f _ e with g | g
    ·exact absurd rfl (Nat.ne_of_lt (h.dv.lt _ g))
    ·exact hnf e
   ·exact absurd rfl (Nat.ne_of_lt (h.sl.lt _ e))
  have S6 : w6.cell? ⟨y, 1, none⟩ = some (.pointer (some ⟨zs, 0, none⟩)) ∧ w6.cell? ⟨w.heap.size, 0, none⟩ = some (.int .i64 half) ∧ w6.cell? ⟨w.heap.size, 1, none⟩ = some (.int .i64 fin) ∧ w6.cell? ⟨w.heap.size, 2, none⟩ = some (.int .i64 many) := ⟨hP6.cells.2.1, (hk6.cell (p := ⟨w.heap.size, 0, none⟩) (Nat.lt_of_lt_of_le hz1 hk5.size) (hold _ rfl)).trans S5.2.1, (hk6.cell (p := ⟨w.heap.size, 1, none⟩) (Nat.lt_of_lt_of_le hz1 hk5.size) (hold _ rfl)).trans S5.2.2.1, (hk6.cell (p := ⟨w.heap.size, 2, none⟩) (Nat.lt_of_lt_of_le hz1 hk5.size) (hold _ rfl)).trans S5.2.2.2⟩
  go_wp2_with fail
  refine hK.out _ _ ?_ (fun hHeld2 => ?_)
  ·exact S6
  clear hK K hHeld
  have hHeld := hHeld2
  clear hHeld2
  try simp only [Act.put, List.setIfInBounds_toArray, List.set_cons_zero, List.set_cons_succ]
  refine tk (i := 7) (v := ?_) (hy := Or.inl ⟨by rfl, ?_⟩) (hS := hHeld) (h := ?_)
  rotate_left
  ·intro w hSw
   try dsimp only at hSw
   go_simp
   all_goals with_reducible rfl
  try simp only [Act.put, List.setIfInBounds_toArray, List.set_cons_zero, List.set_cons_succ]
  refine wpAnyH_calm (by kernel_rfl) ?_ _
  clear hHeld S6 S5 S0 hP5 hs5w hs5 hA5 cm cfl hk5
  have hfin := HSV.out
  rw [if_neg (by decide)] at hfin
  have HF := Lib.hid hfin
  obtain ⟨Rs, Rd, Rn⟩ := R
  simp only at hP6 HF ⊢
  have hb8 := hP6.cells.2.2.2.2.2.2.2.2
  obtain ⟨c8, cf⟩ := hb8
  have g8 := broken_put hP6 (s.broken || decide (Rn ≠ 0))
  have FIN : ∀ e, e = .returned (.int .i64 Rn) → SpPZ w y zs zt a fp slp stp (s.save d m).1 (s.save d m).2.1 (s.save d m).2.2 e (w6.setCell ⟨y, 8, none⟩ (.bool (s.broken || decide (Rn ≠ 0)))) := fun e he => by
   subst he
   rw [HF.out]
   exact .of g8.1 (hs6.trans (.own g8.2))
  clear hfin HF HSV HR g8 hP6 hs6 hS6 hD6 hk6
  cases hb : s.broken with
  | true =>
   replace c8 : w6.cell? ⟨y, 8, none⟩ = some (.bool true) := by rw [← hb]; exact c8
   rw [hb] at FIN
   simp only [Bool.true_or] at FIN
   have FN := Lib.hid FIN
   clear hb FIN
   go_wp2_with fail
   go_ret
   exact FN.out _ rfl
  | false =>
   replace c8 : w6.cell? ⟨y, 8, none⟩ = some (.bool false) := by rw [← hb]; exact c8
   rw [hb] at FIN
   simp only [Bool.false_or] at FIN
   by_cases hr0 : Rn = 0
   ·subst hr0
    rw [show decide ((0 : Int) ≠ 0) = false from rfl] at FIN
    have FN := Lib.hid FIN
    clear hb FIN
    go_wp2_with fail
    go_ret
    exact FN.out _ rfl
   ·have hrb : (Rn != 0) = true := by simpa using hr0
    rw [show decide (Rn ≠ 0) = true by simpa using hr0] at FIN
    have FN := Lib.hid FIN
    clear hb FIN hr0
    go_wp2_with fail
    go_ret
    exact FN.out _ rfl
 ·have hqb : (Qn != 0) = true := by simpa using hQ0
  have hfin := HSV.out
  rw [if_pos hQ0] at hfin
  have HF := Lib.hid hfin
  clear hfin hQ0
  go_wp2_with fail
  go_ret
  rw [HF.out]
  exact .of hP1 hs1
end
end Go.Proofs.YtbnflbkaogpnbaaGreat
namespace Go.Proofs.YtbnflbkaogpnbaaGreat
set_option linter.unusedVariables false
open Go.RowKit
theorem added_put {w : World} {y zs zt a : Nat} {fp slp stp : List Nat} {s : Sp} {d : Dev} (h : SpP w y zs zt a fp slp stp s d) (b : Bool) :
  SpP (w.setCell ⟨y, 7, none⟩ (.bool b)) y zs zt a fp slp stp { s with added := b } d ∧ Kept [y] w (w.setCell ⟨y, 7, none⟩ (.bool b)) := by
 have hk : Kept [y] w (w.setCell ⟨y, 7, none⟩ (.bool b)) := Kept.setCell (by simp) _
 exact ⟨h.put hk rfl rfl (heap_set h.head 7 _), hk⟩
theorem Sp.save_half (s : Sp) (d : Dev) (m : List UInt8) : (s.save d m).1.half = s.half := by
 unfold Sp.save
 split <;> rfl
theorem Sp.save_many (s : Sp) (d : Dev) (m : List UInt8) : (s.save d m).1.many = s.many := by
 unfold Sp.save
 split <;> rfl
theorem Sp.save_added (s : Sp) (d : Dev) (m : List UInt8) : (s.save d m).1.added = s.added := by
 unfold Sp.save
 split <;> rfl
section
variable {w : World} {y zs zt a : Nat} {fp slp stp : List Nat} {s : Sp} {d : Dev}
set_option maxHeartbeats 1000000 in
theorem spoolFlush_any (h : SpP w y zs zt a fp slp stp s d) (h1 : s.half ≤ 1) (h2 : s.st.fin < 4294967296) (h3 : s.many < 4294967296) (hnw : s.sl.newer ≤ 1) (htn : s.sl.turn < 9223372036854775000) (hfi : s.sl.first < 9223372036854775000)
  (hwk : d.works < 9223372036853000000) : Calls Tryz.prog 5 #[.pointer (some ⟨y, 0, none⟩)] w (SpPZ w y zs zt a fp slp stp (s.flush d).1 (s.flush d).2.1 (s.flush d).2.2) := by
 cases hw : s.wrong d with
 | true =>
  have e1 : s.flush d = (s.touch d, d, 100) := by unfold Sp.flush; rw [if_pos hw]
  rw [e1]
  have cw := wrong_yes h hw
  clear e1
  go_enter Tryz.func5, Tryz.ntmps5
  go_wp2_with fail
  refine cw.mono ?_
  rintro e w1 ⟨rfl, hP1, hk1⟩
  go_wp2_with fail
  go_ret
  exact .of hP1 (.own hk1)
 | false =>
  have cw := wrong_no h hw
  cases ha : s.added with
  | false =>
   have e1 : s.flush d = (s, d, 0) := by unfold Sp.flush; rw [if_neg (by rw [hw]; decide), if_pos ha]
   rw [e1]
   clear e1
   go_enter Tryz.func5, Tryz.ntmps5
   go_wp2_with fail
   refine cw.mono ?_
   rintro e w1 ⟨rfl, hP1, hk1⟩
   have c7 : w1.cell? ⟨y, 7, none⟩ = some (.bool false) := by rw [← ha]; exact hP1.cells.2.2.2.2.2.2.2.1
   clear ha
   go_wp2_with fail
   go_ret
   exact .of hP1 (.own hk1)
  | true =>
   obtain ⟨R, hR⟩ : ∃ R, s.save d (manB s.half s.st.fin s.many) = R := ⟨_, rfl⟩
   have e1 : s.flush d = ({ R.1 with added := decide (R.2.2 ≠ 0) }, R.2.1, R.2.2) := by
    unfold Sp.flush
    rw [if_neg (by rw [hw]; decide), if_neg (by rw [ha]; decide)]
    simp only [hR]
   have hadd : R.1.added = true := by rw [← hR, Sp.save_added, ha]
   have hhf : R.1.half = s.half := by rw [← hR, Sp.save_half]
   have hmn : R.1.many = s.many := by rw [← hR, Sp.save_many]
   have HF := Lib.hid e1
   clear e1
   go_enter Tryz.func5, Tryz.ntmps5
   go_wp2_with fail
   refine cw.mono ?_
   rintro e w1 ⟨rfl, hP1, hk1⟩
   have c7 : w1.cell? ⟨y, 7, none⟩ = some (.bool true) := by rw [← ha]; exact hP1.cells.2.2.2.2.2.2.2.1
   have HA := Lib.hid ha
   clear ha
   go_wp2_with fail
   have hs1 : SpS w w1.drew y fp slp stp fp slp stp := (SpS.own hk1).trans (.new (Kept.drew [] w1))
   have hPd := hP1.new (Kept.drew [] w1)
   obtain ⟨-, -, c2, -, -, c5, c6, -⟩ := hPd.cells
   have csv := spoolSave_any hPd s.half s.st.fin s.many h1 h2 h3 hnw htn hfi hwk
   rw [hR] at csv
   have HR := Lib.hid hR
   clear hR c7 hP1
   refine wp_region_calm (S := (fun W => W.cell? ⟨y, 2, none⟩ = some (.pointer (some ⟨zt, 0, none⟩)) ∧ W.cell? ⟨y, 5, none⟩ = some (.int .i64 s.half) ∧ W.cell? ⟨y, 6, none⟩ = some (.int .i64 s.many))) (by kernel_rfl) ⟨c2, c5, c6⟩ (fun hHeld => ?_)
   refine tk (i := 0) (v := ?_) (hy := Or.inl ⟨by rfl, ?_⟩) (hS := hHeld) (h := ?_)
   rotate_left
   ·intro w hSw
    try dsimp only at hSw
    go_simp
    all_goals with_reducible rfl
   try simp only [Act.put, List.setIfInBounds_toArray, List.set_cons_zero, List.set_cons_succ]
   refine tk (i := 1) (v := ?_) (hy := Or.inl ⟨by rfl, ?_⟩) (hS := hHeld) (h := ?_)
   rotate_left
   ·intro w hSw
    try dsimp only at hSw
    go_simp
    all_goals with_reducible rfl
   try simp only [Act.put, List.setIfInBounds_toArray, List.set_cons_zero, List.set_cons_succ]
   refine tk (i := 2) (v := ?_) (hy := Or.inl ⟨by rfl, ?_⟩) (hS := hHeld) (h := ?_)
   rotate_left
   ·intro w hSw
    try dsimp only at hSw
    go_simp
    all_goals with_reducible rfl
   try simp only [Act.put, List.setIfInBounds_toArray, List.set_cons_zero, List.set_cons_succ]
   refine tk (i := 3) (v := ?_) (hy := Or.inl ⟨by rfl, ?_⟩) (hS := hHeld) (h := ?_)
   rotate_left
   ·intro w hSw
    try dsimp only at hSw
    go_simp
    all_goals with_reducible rfl
   try simp only [Act.put, List.setIfInBounds_toArray, List.set_cons_zero, List.set_cons_succ]
   refine tk (i := 4) (v := ?_) (hy := Or.inl ⟨by rfl, ?_⟩) (hS := hHeld) (h := ?_)
   rotate_left
   ·intro w hSw
    try dsimp only at hSw
    obtain ⟨s0, s1, s2⟩ := hSw
    go_simp
    all_goals with_reducible rfl
   try simp only [Act.put, List.setIfInBounds_toArray, List.set_cons_zero, List.set_cons_succ]
   refine tk (i := 5) (v := ?_) (hy := Or.inl ⟨by rfl, ?_⟩) (hS := hHeld) (h := ?_)
   rotate_left
   ·intro w hSw
    try dsimp only at hSw
    go_simp
    all_goals with_reducible rfl
   try simp only [Act.put, List.setIfInBounds_toArray, List.set_cons_zero, List.set_cons_succ]
   refine tk (i := 6) (v := ?_) (hy := Or.inl ⟨by rfl, ?_⟩) (hS := hHeld) (h := ?_)
   rotate_left
   ·intro w hSw
    try dsimp only at hSw
    go_simp
    all_goals with_reducible rfl
   try simp only [Act.put, List.setIfInBounds_toArray, List.set_cons_zero, List.set_cons_succ]
   refine tk (i := 7) (v := ?_) (hy := Or.inl ⟨by rfl, ?_⟩) (hS := hHeld) (h := ?_)
   rotate_left
   ·intro w hSw
    try dsimp only at hSw
    go_simp
    all_goals with_reducible rfl
   try simp only [Act.put, List.setIfInBounds_toArray, List.set_cons_zero, List.set_cons_succ]
   refine tk (i := 8) (v := ?_) (hy := Or.inl ⟨by rfl, ?_⟩) (hS := hHeld) (h := ?_)
   rotate_left
   ·intro w hSw
    try dsimp only at hSw
    obtain ⟨s0, s1, s2⟩ := hSw
    go_simp
    all_goals with_reducible rfl
   try simp only [Act.put, List.setIfInBounds_toArray, List.set_cons_zero, List.set_cons_succ]
   refine tk (i := 10) (v := ?_) (hy := Or.inl ⟨by rfl, ?_⟩) (hS := hHeld) (h := ?_)
   rotate_left
   ·intro w hSw
    try dsimp only at hSw
    go_simp
    all_goals with_reducible rfl
   try simp only [Act.put, List.setIfInBounds_toArray, List.set_cons_zero, List.set_cons_succ]
   refine tk (i := 11) (v := ?_) (hy := Or.inl ⟨by rfl, ?_⟩) (hS := hHeld) (h := ?_)
   rotate_left
   ·intro w hSw
    try dsimp only at hSw
    go_simp
    all_goals with_reducible rfl
   try simp only [Act.put, List.setIfInBounds_toArray, List.set_cons_zero, List.set_cons_succ]
   refine tk (i := 12) (v := ?_) (hy := Or.inl ⟨by rfl, ?_⟩) (hS := hHeld) (h := ?_)
   rotate_left
   ·intro w hSw
    try dsimp only at hSw
    go_simp
    all_goals with_reducible rfl
   try simp only [Act.put, List.setIfInBounds_toArray, List.set_cons_zero, List.set_cons_succ]
   refine tk (i := 13) (v := ?_) (hy := Or.inl ⟨by rfl, ?_⟩) (hS := hHeld) (h := ?_)
   rotate_left
   ·intro w hSw
    try dsimp only at hSw
    obtain ⟨s0, s1, s2⟩ := hSw
    go_simp
    all_goals with_reducible rfl
   try simp only [Act.put, List.setIfInBounds_toArray, List.set_cons_zero, List.set_cons_succ]
   refine wpAnyH_ready (rs := [9]) (by kernel_rfl) (by simp) ?_
   refine AllReadyH.cons (by simp only [List.getElem?_toArray, List.getElem?_cons_succ, List.getElem?_cons_zero]; rfl) (fun K hK => ?_) AllReadyH.nil
   go_simp
   refine (stripEnd_any hPd.st).mono ?_
   rintro e w4 ⟨rfl, rfl⟩
   go_wp2_with fail
   refine hK.out _ _ ?_ (fun hHeld2 => ?_)
   ·exact ⟨c2, c5, c6⟩
   clear hK K hHeld
   have hHeld := hHeld2
   clear hHeld2
   try simp only [Act.put, List.setIfInBounds_toArray, List.set_cons_zero, List.set_cons_succ]
   refine tk (i := 14) (v := ?_) (hy := Or.inl ⟨by rfl, ?_⟩) (hS := hHeld) (h := ?_)
   rotate_left
   ·intro w hSw
    try dsimp only at hSw
    go_simp
    all_goals with_reducible rfl
   try simp only [Act.put, List.setIfInBounds_toArray, List.set_cons_zero, List.set_cons_succ]
   refine wpAnyH_ready (rs := [15]) (by kernel_rfl) (by simp) ?_
   refine AllReadyH.cons (by simp only [List.getElem?_toArray, List.getElem?_cons_succ, List.getElem?_cons_zero]; rfl) (fun K hK => ?_) AllReadyH.nil
   go_simp
   refine csv.mono ?_
   rintro e w6 ⟨rfl, fp6, slp6, stp6, hP6, hS6⟩
   obtain ⟨-, -, d2, -, -, d5, d6, -⟩ := hP6.cells
   rw [hhf] at d5
   rw [hmn] at d6
   go_wp2_with fail
   refine hK.out _ _ ?_ (fun hHeld2 => ?_)
   ·exact ⟨d2, d5, d6⟩
   clear hK K hHeld
   have hHeld := hHeld2
   clear hHeld2
   try simp only [Act.put, List.setIfInBounds_toArray, List.set_cons_zero, List.set_cons_succ]
   refine tk (i := 16) (v := ?_) (hy := Or.inl ⟨by rfl, ?_⟩) (hS := hHeld) (h := ?_)
   rotate_left
   ·intro w hSw
    try dsimp only at hSw
    go_simp
    all_goals with_reducible rfl
   try simp only [Act.put, List.setIfInBounds_toArray, List.set_cons_zero, List.set_cons_succ]
   refine wpAnyH_calm (by kernel_rfl) ?_ _
   clear hHeld csv HR cw
   have hs6 := hs1.trans hS6
   obtain ⟨Rs, Rd, Rn⟩ := R
   simp only at hP6 HF hadd ⊢
   obtain ⟨-, -, -, -, -, -, -, c7, -, cf⟩ := hP6.cells
   rw [hadd] at c7
   have g8 := added_put hP6 (decide (Rn ≠ 0))
   have FIN : ∀ e, e = .returned (.int .i64 Rn) → SpPZ w y zs zt a fp slp stp (s.flush d).1 (s.flush d).2.1 (s.flush d).2.2 e (w6.setCell ⟨y, 7, none⟩ (.bool (decide (Rn ≠ 0)))) := fun e he => by
    subst he
    rw [HF.out]
    exact .of g8.1 (hs6.trans (.own g8.2))
   clear HF g8 hP6 hs6 hS6 hadd c2 c5 c6
   by_cases hr0 : Rn = 0
   ·subst hr0
    rw [show decide ((0 : Int) ≠ 0) = false from rfl] at FIN
    have FN := Lib.hid FIN
    clear FIN
    go_wp2_with fail
    go_ret
    exact FN.out _ rfl
   ·have hrb : (Rn != 0) = true := by simpa using hr0
    rw [show decide (Rn ≠ 0) = true by simpa using hr0] at FIN
    have FN := Lib.hid FIN
    clear FIN hr0
    go_wp2_with fail
    go_ret
    exact FN.out _ rfl
end
end Go.Proofs.YtbnflbkaogpnbaaGreat
