/- Texts in one: KH HB. -/
import Derived.Test.YtbnflbkaogpnbaaGreatPBE
import Derived.Test.YtbnflbkaogpnbaaGreatPAV
import Derived.OwnWalk
import Derived.Test.YtbnflbkaogpnbaaGreatPAN
namespace Go.Proofs.YtbnflbkaogpnbaaGreat
set_option linter.unusedVariables false
open Go.RowKit
/-- What every log is that was opened, in the k-th deed. -/
structure SpOk (s : Sp) (d : Dev) (k : Nat) : Prop where
 half : s.half ≤ 1
 one : 1 ≤ s.each
 room : s.first + 2 * s.each ≤ d.secs.length
 wf : s.st.Wf d
 stm : s.st.many = s.each
 many : s.many ≤ 2000000 + k
 newer : s.sl.newer ≤ 1
 turn : s.sl.turn ≤ 9007199254740991 + k
 slf : s.sl.first < 9223372036854775000
theorem readSlot_turn' {x : Blk} {t : Nat} {b : List UInt8} (h : readSlot x = some (t, b)) : t ≤ 9007199254740991 := by
 unfold readSlot at h
 split at h
 ·simp at h; omega
 ·split at h
  ·cases h
  ·split at h
   ·simp only [Option.some.injEq, Prod.mk.injEq] at h
    omega
   ·cases h
theorem Sl.of_wf' {f : Nat} {x y : Blk} {s : Sl} (h : Sl.of f x y = some s) : s.newer ≤ 1 ∧ s.turn ≤ 9007199254740991 ∧ s.first = f := by
 unfold Sl.of at h
 cases hx : readSlot x with
 | none => rw [hx] at h; cases h
 | some a =>
  cases hy : readSlot y with
  | none => rw [hx, hy] at h; cases h
  | some b =>
   obtain ⟨m, u⟩ := a
   obtain ⟨n, v⟩ := b
   rw [hx, hy] at h
   have h1 := readSlot_turn' hx; have h2 := readSlot_turn' hy
   simp only at h
   split at h
   ·cases h
   ·split at h <;> (cases h; exact ⟨by simp, by assumption, rfl⟩)
theorem LogIs.ok {d : Dev} {f m : Nat} {s : Sp} {l : List (List UInt8)} (h : LogIs d f m s l) (hw : d.Wf) (hm : 1 ≤ m) (hr : f + 2 + 2 * m ≤ d.secs.length) (hl : d.secs.length ≤ 900) : SpOk s d 0 := by
 obtain ⟨x, y, sl, half, fin, many, a1, a2, a3, a4, a5, a6, a7, a8, rfl⟩ := h
 obtain ⟨b1, b2, b3⟩ := manOf_half a4
 obtain ⟨c1, c2, c3⟩ := Sl.of_wf' a3
 have hroom := half_room b1 hr
 have hbl : (halfB d f m half fin).length = fin := by
  unfold halfB
  have h2 := flatten_len (d.secs.drop (f + 2 + half * m)) (fun b hb => hw.size b (List.mem_of_mem_drop hb))
  rw [List.length_take, Dev.bytesAt, h2, List.length_drop]
  omega
 have hml := recs_len_ge l
 rw [← a7, hbl] at hml
 exact ⟨b1, hm, hr, ⟨hm, hroom, a5, by show (List.drop _ _).length = fin % 128; rw [List.length_drop, hbl]; omega⟩, rfl, by show many ≤ _; omega, c1, by show sl.turn ≤ _; omega, by show sl.first < _; omega⟩
theorem SpOk.more {s : Sp} {d : Dev} {k k' : Nat} (h : SpOk s d k) (hk : k ≤ k') : SpOk s d k' := ⟨h.half, h.one, h.room, h.wf, h.stm, by have := h.many; omega, h.newer, by have := h.turn; omega, h.slf⟩
/-- The pair, the same on both sides. -/
structure PrZ (w0 w : World) (p a r : Nat) (f m : Int) (d : Dev) (os : Option Sp) (k : Nat) : Prop where
 ex : ∃ vs vm fp gp S G t, Pr13 w0 w p a r f m d d os os vs vm fp gp S G t
 wf : ∀ s, os = some s → SpOk s d k
 works : d.works ≤ 10000000 * k
 len : d.secs.length ≤ 900
 fI : I64 f
 mI : I64 m
def PzPost (w0 : World) (p a r : Nat) (f m : Int) (d : Dev) (k : Nat) (e : Ending) (w' : World) : Prop :=
 e = .returned (.tuple #[]) ∧ ∃ os, PrZ w0 w' p a r f m d os k
theorem pr13_cells {w : World} {p a r : Nat} {f m : Int} {vs vm : Value} {b : Bool} (h : w.heap[p]? = some (.cells (prCells13 f m a r vs vm b) 72 (0, 0))) :
  w.cell? ⟨p, 0, none⟩ = some (.int .i64 f) ∧ w.cell? ⟨p, 1, none⟩ = some (.int .i64 m) ∧ w.cell? ⟨p, 2, none⟩ = some (.pointer (some ⟨a, 0, none⟩)) ∧ w.cell? ⟨p, 3, none⟩ = some vs ∧ w.cell? ⟨p, 4, none⟩ = some (.pointer (some ⟨r, 0, none⟩)) ∧ w.cell? ⟨p, 5, none⟩ = some vm ∧ w.cell? ⟨p, 6, none⟩ = some (.bool b) ∧ ∀ i, w.frozen? ⟨p, i, none⟩ = false := by
 refine ⟨?_, ?_, ?_, ?_, ?_, ?_, ?_, fun i => blk_frozen h i⟩ <;> (rw [blk_cell h]; rfl)
theorem Op13.tup {w w' : World} {a : Nat} {fp : List Nat} {d : Dev} {f m : Int} {e : Ending} (h : Op13 w a fp d f m e w') : ∃ v1 v2 v3, e = .returned (.tuple #[v1, v2, v3]) := by
 rcases h.2 with ⟨_, rfl⟩ | ⟨_, _, rfl⟩ | ⟨_, s, l, y, zs, zt, slp, stp, A, n, c, ps, _, rfl, _⟩ <;> exact ⟨_, _, _, rfl⟩
theorem Op13R.tup {w w' : World} {r : Nat} {gp : List Nat} {d : Dev} {f m : Int} {e : Ending} (h : Op13R w r gp d f m e w') : ∃ v1 v2 v3, e = .returned (.tuple #[v1, v2, v3]) := by
 rcases h.2 with ⟨_, rfl⟩ | ⟨_, _, rfl⟩ | ⟨_, s, l, y, zm, zt, sp, A, n, c, ps, B, _, rfl, _⟩ <;> exact ⟨_, _, _, rfl⟩
set_option maxHeartbeats 4000000 in
set_option maxRecDepth 100000 in
theorem pairOpens13_any {w0 w : World} {p a r : Nat} {f m : Int} {d : Dev} {os : Option Sp} {k : Nat} (h : PrZ w0 w p a r f m d os k) :
  Calls Tryz.prog 33 #[.pointer (some ⟨p, 0, none⟩)] w (PzPost w0 p a r f m d k) := by
 obtain ⟨vs, vm, fp, gp, S, G, t, hP⟩ := h.ex
 obtain ⟨c0, c1, c2, c3, c4, c5, c6, cf⟩ := pr13_cells hP.head
 have hpl := hP.pl
 have hdw := hP.dv.wf
 have cW := works_dv hP.dv
 have cO := fun W (hk : Kept [] w W) => spoolOpen_any (hP.dv.new_kept hk) f m h.fI h.mI
 have cR := fun W (hk : Kept [] w W) => ref13Open_any (hP.rv.new_kept hk) hdw f m h.fI h.mI
 have cW2 := fun W (hk : Kept [] w W) => works_dv (hP.dv.new_kept hk)
 obtain ⟨wk, hwk⟩ : ∃ wk, d.works = wk := ⟨_, rfl⟩
 rw [hwk] at cW cW2
 clear hwk
 go_enter Tryz.func33, Tryz.ntmps33
 go_wp2_with fail
 refine cW.mono ?_
 rintro e w1 ⟨rfl, rfl⟩
 clear cW
 go_wp2_with fail
 refine wp_region_calm (S := (fun W => W.cell? ⟨p, 0, none⟩ = some (.int .i64 f) ∧ W.cell? ⟨p, 1, none⟩ = some (.int .i64 m) ∧ W.cell? ⟨p, 2, none⟩ = some (.pointer (some ⟨a, 0, none⟩)))) (by kernel_rfl) (show _ ∧ _ ∧ _ from ⟨c0, c1, c2⟩) (fun hHeld => ?_)
 refine tk (i := 0) (v := ?_) (hy := Or.inl ⟨by rfl, ?_⟩) (hS := hHeld) (h := ?_)
 rotate_left
 ·intro w hSw
  try dsimp only at hSw
  go_simp
  all_goals with_reducible rfl
 try simp only [Act.put, List.setIfInBounds_toArray, List.set_cons_zero, List.set_cons_succ]
 refine tk (i := 1) (v := ?_) (hy := Or.inl ⟨by rfl, ?_⟩) (hS := hHeld) (h := ?_)
 rotate_left
 ·intro w hSw
  try dsimp only at hSw
  go_simp
  all_goals with_reducible rfl
 try simp only [Act.put, List.setIfInBounds_toArray, List.set_cons_zero, List.set_cons_succ]
 refine tk (i := 2) (v := ?_) (hy := Or.inl ⟨by rfl, ?_⟩) (hS := hHeld) (h := ?_)
 rotate_left
 ·intro w hSw
  try dsimp only at hSw
  go_simp
  all_goals with_reducible rfl
 try simp only [Act.put, List.setIfInBounds_toArray, List.set_cons_zero, List.set_cons_succ]
 refine tk (i := 3) (v := ?_) (hy := Or.inl ⟨by rfl, ?_⟩) (hS := hHeld) (h := ?_)
 rotate_left
 ·intro w hSw
  try dsimp only at hSw
  obtain ⟨s0, s1, s2⟩ := hSw
  go_simp
  all_goals with_reducible rfl
 try simp only [Act.put, List.setIfInBounds_toArray, List.set_cons_zero, List.set_cons_succ]
 refine tk (i := 4) (v := ?_) (hy := Or.inl ⟨by rfl, ?_⟩) (hS := hHeld) (h := ?_)
 rotate_left
 ·intro w hSw
  try dsimp only at hSw
  go_simp
  all_goals with_reducible rfl
 try simp only [Act.put, List.setIfInBounds_toArray, List.set_cons_zero, List.set_cons_succ]
 refine tk (i := 5) (v := ?_) (hy := Or.inl ⟨by rfl, ?_⟩) (hS := hHeld) (h := ?_)
 rotate_left
 ·intro w hSw
  try dsimp only at hSw
  go_simp
  all_goals with_reducible rfl
 try simp only [Act.put, List.setIfInBounds_toArray, List.set_cons_zero, List.set_cons_succ]
 refine tk (i := 6) (v := ?_) (hy := Or.inl ⟨by rfl, ?_⟩) (hS := hHeld) (h := ?_)
 rotate_left
 ·intro w hSw
  try dsimp only at hSw
  go_simp
  all_goals with_reducible rfl
 try simp only [Act.put, List.setIfInBounds_toArray, List.set_cons_zero, List.set_cons_succ]
 refine tk (i := 7) (v := ?_) (hy := Or.inl ⟨by rfl, ?_⟩) (hS := hHeld) (h := ?_)
 rotate_left
 ·intro w hSw
  try dsimp only at hSw
  go_simp
  all_goals with_reducible rfl
 try simp only [Act.put, List.setIfInBounds_toArray, List.set_cons_zero, List.set_cons_succ]
 refine tk (i := 8) (v := ?_) (hy := Or.inl ⟨by rfl, ?_⟩) (hS := hHeld) (h := ?_)
 rotate_left
 ·intro w hSw
  try dsimp only at hSw
  obtain ⟨s0, s1, s2⟩ := hSw
  go_simp
  all_goals with_reducible rfl
 try simp only [Act.put, List.setIfInBounds_toArray, List.set_cons_zero, List.set_cons_succ]
 refine tk (i := 9) (v := ?_) (hy := Or.inl ⟨by rfl, ?_⟩) (hS := hHeld) (h := ?_)
 rotate_left
 ·intro w hSw
  try dsimp only at hSw
  go_simp
  all_goals with_reducible rfl
 try simp only [Act.put, List.setIfInBounds_toArray, List.set_cons_zero, List.set_cons_succ]
 refine tk (i := 10) (v := ?_) (hy := Or.inl ⟨by rfl, ?_⟩) (hS := hHeld) (h := ?_)
 rotate_left
 ·intro w hSw
  try dsimp only at hSw
  go_simp
  all_goals with_reducible rfl
 try simp only [Act.put, List.setIfInBounds_toArray, List.set_cons_zero, List.set_cons_succ]
 refine tk (i := 11) (v := ?_) (hy := Or.inl ⟨by rfl, ?_⟩) (hS := hHeld) (h := ?_)
 rotate_left
 ·intro w hSw
  try dsimp only at hSw
  go_simp
  all_goals with_reducible rfl
 try simp only [Act.put, List.setIfInBounds_toArray, List.set_cons_zero, List.set_cons_succ]
 refine tk (i := 12) (v := ?_) (hy := Or.inl ⟨by rfl, ?_⟩) (hS := hHeld) (h := ?_)
 rotate_left
 ·intro w hSw
  try dsimp only at hSw
  go_simp
  all_goals with_reducible rfl
 try simp only [Act.put, List.setIfInBounds_toArray, List.set_cons_zero, List.set_cons_succ]
 refine tk (i := 13) (v := ?_) (hy := Or.inl ⟨by rfl, ?_⟩) (hS := hHeld) (h := ?_)
 rotate_left
 ·intro w hSw
  try dsimp only at hSw
  obtain ⟨s0, s1, s2⟩ := hSw
  go_simp
  all_goals with_reducible rfl
 try simp only [Act.put, List.setIfInBounds_toArray, List.set_cons_zero, List.set_cons_succ]
 refine wpAnyH_ready (rs := [14]) (by kernel_rfl) (by simp) ?_
 refine AllReadyH.cons (by simp only [List.getElem?_toArray, List.getElem?_cons_succ, List.getElem?_cons_zero]; rfl) (fun K hK => ?_) AllReadyH.nil
 go_simp
 refine (cO _ (Kept.drew [] w)).mono ?_
 rintro e w1 hO
 obtain ⟨v1, v2, v3, rfl⟩ := hO.tup
 have k1 := (Kept.drew [] w).trans hO.1
 go_wp2_with fail
 refine hK.out _ _ ?_ (fun hHeld2 => ?_)
 ·exact ⟨(k1.cell (p := ⟨p, 0, none⟩) hpl (by simp)).trans c0, (k1.cell (p := ⟨p, 1, none⟩) hpl (by simp)).trans c1, (k1.cell (p := ⟨p, 2, none⟩) hpl (by simp)).trans c2⟩
 clear hK K hHeld
 have hHeld := hHeld2
 clear hHeld2
 try simp only [Act.put, List.setIfInBounds_toArray, List.set_cons_zero, List.set_cons_succ]
 refine tk (i := 15) (v := ?_) (hy := Or.inl ⟨by rfl, ?_⟩) (hS := hHeld) (h := ?_)
 rotate_left
 ·intro w hSw
  try dsimp only at hSw
  go_simp
  all_goals with_reducible rfl
 try simp only [Act.put, List.setIfInBounds_toArray, List.set_cons_zero, List.set_cons_succ]
 refine tk (i := 16) (v := ?_) (hy := Or.inl ⟨by rfl, ?_⟩) (hS := hHeld) (h := ?_)
 rotate_left
 ·intro w hSw
  try dsimp only at hSw
  go_simp
  all_goals with_reducible rfl
 try simp only [Act.put, List.setIfInBounds_toArray, List.set_cons_zero, List.set_cons_succ]
 refine tk (i := 17) (v := ?_) (hy := Or.inl ⟨by rfl, ?_⟩) (hS := hHeld) (h := ?_)
 rotate_left
 ·intro w hSw
  try dsimp only at hSw
  go_simp
  all_goals with_reducible rfl
 try simp only [Act.put, List.setIfInBounds_toArray, List.set_cons_zero, List.set_cons_succ]
 refine tk (i := 18) (v := ?_) (hy := Or.inl ⟨by rfl, ?_⟩) (hS := hHeld) (h := ?_)
 rotate_left
 ·intro w hSw
  try dsimp only at hSw
  go_simp
  all_goals with_reducible rfl
 try simp only [Act.put, List.setIfInBounds_toArray, List.set_cons_zero, List.set_cons_succ]
 refine tk (i := 19) (v := ?_) (hy := Or.inl ⟨by rfl, ?_⟩) (hS := hHeld) (h := ?_)
 rotate_left
 ·intro w hSw
  try dsimp only at hSw
  go_simp
  all_goals with_reducible rfl
 try simp only [Act.put, List.setIfInBounds_toArray, List.set_cons_zero, List.set_cons_succ]
 refine tk (i := 20) (v := ?_) (hy := Or.inl ⟨by rfl, ?_⟩) (hS := hHeld) (h := ?_)
 rotate_left
 ·intro w hSw
  try dsimp only at hSw
  go_simp
  all_goals with_reducible rfl
 try simp only [Act.put, List.setIfInBounds_toArray, List.set_cons_zero, List.set_cons_succ]
 refine tk (i := 21) (v := ?_) (hy := Or.inl ⟨by rfl, ?_⟩) (hS := hHeld) (h := ?_)
 rotate_left
 ·intro w hSw
  try dsimp only at hSw
  go_simp
  all_goals with_reducible rfl
 try simp only [Act.put, List.setIfInBounds_toArray, List.set_cons_zero, List.set_cons_succ]
 refine wpAnyH_calm (by kernel_rfl) ?_ _
 clear hHeld
 have d0 := (k1.cell (p := ⟨p, 0, none⟩) hpl (by simp)).trans c0
 have d1 := (k1.cell (p := ⟨p, 1, none⟩) hpl (by simp)).trans c1
 have d4 := (k1.cell (p := ⟨p, 4, none⟩) hpl (by simp)).trans c4
 have hpl1 := Nat.lt_of_lt_of_le hpl k1.size
 have cR1 := cR w1.drew (k1.trans (Kept.drew [] w1))
 clear cO cR
 go_wp2_with fail
 refine wp_region_calm (S := (fun W => W.cell? ⟨p, 0, none⟩ = some (.int .i64 f) ∧ W.cell? ⟨p, 1, none⟩ = some (.int .i64 m) ∧ W.cell? ⟨p, 4, none⟩ = some (.pointer (some ⟨r, 0, none⟩)))) (by kernel_rfl) (show _ ∧ _ ∧ _ from ⟨d0, d1, d4⟩) (fun hHeld => ?_)
 refine tk (i := 0) (v := ?_) (hy := Or.inl ⟨by rfl, ?_⟩) (hS := hHeld) (h := ?_)
 rotate_left
 ·intro w hSw
  try dsimp only at hSw
  go_simp
  all_goals with_reducible rfl
 try simp only [Act.put, List.setIfInBounds_toArray, List.set_cons_zero, List.set_cons_succ]
 refine tk (i := 1) (v := ?_) (hy := Or.inl ⟨by rfl, ?_⟩) (hS := hHeld) (h := ?_)
 rotate_left
 ·intro w hSw
  try dsimp only at hSw
  go_simp
  all_goals with_reducible rfl
 try simp only [Act.put, List.setIfInBounds_toArray, List.set_cons_zero, List.set_cons_succ]
 refine tk (i := 2) (v := ?_) (hy := Or.inl ⟨by rfl, ?_⟩) (hS := hHeld) (h := ?_)
 rotate_left
 ·intro w hSw
  try dsimp only at hSw
  go_simp
  all_goals with_reducible rfl
 try simp only [Act.put, List.setIfInBounds_toArray, List.set_cons_zero, List.set_cons_succ]
 refine tk (i := 3) (v := ?_) (hy := Or.inl ⟨by rfl, ?_⟩) (hS := hHeld) (h := ?_)
 rotate_left
 ·intro w hSw
  try dsimp only at hSw
  obtain ⟨s0, s1, s2⟩ := hSw
  go_simp
  all_goals with_reducible rfl
 try simp only [Act.put, List.setIfInBounds_toArray, List.set_cons_zero, List.set_cons_succ]
 refine tk (i := 4) (v := ?_) (hy := Or.inl ⟨by rfl, ?_⟩) (hS := hHeld) (h := ?_)
 rotate_left
 ·intro w hSw
  try dsimp only at hSw
  go_simp
  all_goals with_reducible rfl
 try simp only [Act.put, List.setIfInBounds_toArray, List.set_cons_zero, List.set_cons_succ]
 refine tk (i := 5) (v := ?_) (hy := Or.inl ⟨by rfl, ?_⟩) (hS := hHeld) (h := ?_)
 rotate_left
 ·intro w hSw
  try dsimp only at hSw
  go_simp
  all_goals with_reducible rfl
 try simp only [Act.put, List.setIfInBounds_toArray, List.set_cons_zero, List.set_cons_succ]
 refine tk (i := 6) (v := ?_) (hy := Or.inl ⟨by rfl, ?_⟩) (hS := hHeld) (h := ?_)
 rotate_left
 ·intro w hSw
  try dsimp only at hSw
  go_simp
  all_goals with_reducible rfl
 try simp only [Act.put, List.setIfInBounds_toArray, List.set_cons_zero, List.set_cons_succ]
 refine tk (i := 7) (v := ?_) (hy := Or.inl ⟨by rfl, ?_⟩) (hS := hHeld) (h := ?_)
 rotate_left
 ·intro w hSw
  try dsimp only at hSw
  go_simp
  all_goals with_reducible rfl
 try simp only [Act.put, List.setIfInBounds_toArray, List.set_cons_zero, List.set_cons_succ]
 refine tk (i := 8) (v := ?_) (hy := Or.inl ⟨by rfl, ?_⟩) (hS := hHeld) (h := ?_)
 rotate_left
 ·intro w hSw
  try dsimp only at hSw
  obtain ⟨s0, s1, s2⟩ := hSw
  go_simp
  all_goals with_reducible rfl
 try simp only [Act.put, List.setIfInBounds_toArray, List.set_cons_zero, List.set_cons_succ]
 refine tk (i := 9) (v := ?_) (hy := Or.inl ⟨by rfl, ?_⟩) (hS := hHeld) (h := ?_)
 rotate_left
 ·intro w hSw
  try dsimp only at hSw
  go_simp
  all_goals with_reducible rfl
 try simp only [Act.put, List.setIfInBounds_toArray, List.set_cons_zero, List.set_cons_succ]
 refine tk (i := 10) (v := ?_) (hy := Or.inl ⟨by rfl, ?_⟩) (hS := hHeld) (h := ?_)
 rotate_left
 ·intro w hSw
  try dsimp only at hSw
  go_simp
  all_goals with_reducible rfl
 try simp only [Act.put, List.setIfInBounds_toArray, List.set_cons_zero, List.set_cons_succ]
 refine tk (i := 11) (v := ?_) (hy := Or.inl ⟨by rfl, ?_⟩) (hS := hHeld) (h := ?_)
 rotate_left
 ·intro w hSw
  try dsimp only at hSw
  go_simp
  all_goals with_reducible rfl
 try simp only [Act.put, List.setIfInBounds_toArray, List.set_cons_zero, List.set_cons_succ]
 refine tk (i := 12) (v := ?_) (hy := Or.inl ⟨by rfl, ?_⟩) (hS := hHeld) (h := ?_)
 rotate_left
 ·intro w hSw
  try dsimp only at hSw
  go_simp
  all_goals with_reducible rfl
 try simp only [Act.put, List.setIfInBounds_toArray, List.set_cons_zero, List.set_cons_succ]
 refine tk (i := 13) (v := ?_) (hy := Or.inl ⟨by rfl, ?_⟩) (hS := hHeld) (h := ?_)
 rotate_left
 ·intro w hSw
  try dsimp only at hSw
  obtain ⟨s0, s1, s2⟩ := hSw
  go_simp
  all_goals with_reducible rfl
 try simp only [Act.put, List.setIfInBounds_toArray, List.set_cons_zero, List.set_cons_succ]
 refine wpAnyH_ready (rs := [14]) (by kernel_rfl) (by simp) ?_
 refine AllReadyH.cons (by simp only [List.getElem?_toArray, List.getElem?_cons_succ, List.getElem?_cons_zero]; rfl) (fun K hK => ?_) AllReadyH.nil
 go_simp
 refine cR1.mono ?_
 rintro e w2 hR
 obtain ⟨u1, u2, u3, rfl⟩ := hR.tup
 have k2 := (Kept.drew [] w1).trans hR.1
 go_wp2_with fail
 refine hK.out _ _ ?_ (fun hHeld2 => ?_)
 ·exact ⟨(k2.cell (p := ⟨p, 0, none⟩) hpl1 (by simp)).trans d0, (k2.cell (p := ⟨p, 1, none⟩) hpl1 (by simp)).trans d1, (k2.cell (p := ⟨p, 4, none⟩) hpl1 (by simp)).trans d4⟩
 clear hK K hHeld
 have hHeld := hHeld2
 clear hHeld2
 try simp only [Act.put, List.setIfInBounds_toArray, List.set_cons_zero, List.set_cons_succ]
 refine tk (i := 15) (v := ?_) (hy := Or.inl ⟨by rfl, ?_⟩) (hS := hHeld) (h := ?_)
 rotate_left
 ·intro w hSw
  try dsimp only at hSw
  go_simp
  all_goals with_reducible rfl
 try simp only [Act.put, List.setIfInBounds_toArray, List.set_cons_zero, List.set_cons_succ]
 refine tk (i := 16) (v := ?_) (hy := Or.inl ⟨by rfl, ?_⟩) (hS := hHeld) (h := ?_)
 rotate_left
 ·intro w hSw
  try dsimp only at hSw
  go_simp
  all_goals with_reducible rfl
 try simp only [Act.put, List.setIfInBounds_toArray, List.set_cons_zero, List.set_cons_succ]
 refine tk (i := 17) (v := ?_) (hy := Or.inl ⟨by rfl, ?_⟩) (hS := hHeld) (h := ?_)
 rotate_left
 ·intro w hSw
  try dsimp only at hSw
  go_simp
  all_goals with_reducible rfl
 try simp only [Act.put, List.setIfInBounds_toArray, List.set_cons_zero, List.set_cons_succ]
 refine tk (i := 18) (v := ?_) (hy := Or.inl ⟨by rfl, ?_⟩) (hS := hHeld) (h := ?_)
 rotate_left
 ·intro w hSw
  try dsimp only at hSw
  go_simp
  all_goals with_reducible rfl
 try simp only [Act.put, List.setIfInBounds_toArray, List.set_cons_zero, List.set_cons_succ]
 refine tk (i := 19) (v := ?_) (hy := Or.inl ⟨by rfl, ?_⟩) (hS := hHeld) (h := ?_)
 rotate_left
 ·intro w hSw
  try dsimp only at hSw
  go_simp
  all_goals with_reducible rfl
 try simp only [Act.put, List.setIfInBounds_toArray, List.set_cons_zero, List.set_cons_succ]
 refine tk (i := 20) (v := ?_) (hy := Or.inl ⟨by rfl, ?_⟩) (hS := hHeld) (h := ?_)
 rotate_left
 ·intro w hSw
  try dsimp only at hSw
  go_simp
  all_goals with_reducible rfl
 try simp only [Act.put, List.setIfInBounds_toArray, List.set_cons_zero, List.set_cons_succ]
 refine tk (i := 21) (v := ?_) (hy := Or.inl ⟨by rfl, ?_⟩) (hS := hHeld) (h := ?_)
 rotate_left
 ·intro w hSw
  try dsimp only at hSw
  go_simp
  all_goals with_reducible rfl
 try simp only [Act.put, List.setIfInBounds_toArray, List.set_cons_zero, List.set_cons_succ]
 refine wpAnyH_calm (by kernel_rfl) ?_ _
 clear hHeld cR1 d0 d1 d4
 have k12 := k1.trans k2
 have hh2 := (k12.block p hpl (by simp)).trans hP.head
 have hpl2 := Nat.lt_of_lt_of_le hpl k12.size
 obtain ⟨x0, x1, x2, x3, x4, x5, x6, xf⟩ := pr13_cells hh2
 clear c0 c1 c2 c3 c4 c5 c6 cf
 have fin : ∀ (os' : Option Sp) (S' G' : List Nat), LgOpt w2 a v1 S' os' → RgOpt w2 r f.toNat u1 G' os' → (∀ j ∈ S', w.heap.size ≤ j ∧ j < w1.heap.size) → (∀ j ∈ G', w1.heap.size ≤ j ∧ j < w2.heap.size) → (∀ s, os' = some s → SpOk s d k) →
   ∀ W, Kept [] w2 W → (∃ os, PrZ w0 (((W.setCell ⟨p, 6, none⟩ (.bool true)).setCell ⟨p, 3, none⟩ v1).setCell ⟨p, 5, none⟩ u1) p a r f m d os k) := fun os' S' G' h1 h2 h3 h4 h5 W hW => by
  have hhW := (hW.block p hpl2 (by simp)).trans hh2
  have e1 := heap_set hhW 6 (.bool true)
  have e2 := heap_set e1 3 v1
  have e3 := heap_set e2 5 u1
  have hk : Kept [p] W (((W.setCell ⟨p, 6, none⟩ (.bool true)).setCell ⟨p, 3, none⟩ v1).setCell ⟨p, 5, none⟩ u1) := ((Kept.setCell (by simp) _).trans (Kept.setCell (by simp) _)).trans (Kept.setCell (by simp) _)
  have hz1 := k1.size; have hz2 := k2.size; have hzW := hW.size
  obtain ⟨t', hT⟩ := hP.put (vs' := v1) (vm' := u1) (S' := S') (G' := G') (os' := os') (om' := os') (k12.trans hW) hk e3 (h1.kept hW (by simp)) (h2.kept hW (by simp)) (fun j hj => .inr (h3 j hj).1) (fun j hj => .inr (by have := (h4 j hj).1; omega)) (fun j hj hm => by have := (h3 j hj).2; have := (h4 j hm).1; omega) (fun j hj => by have := (h3 j hj).2; omega) (fun j hj => by have := (h4 j hj).2; omega)
  exact ⟨os', ⟨v1, u1, fp, gp, S', G', t', hT⟩, h5, h.works, h.len, h.fI, h.mI⟩
 have x2q := fun W (hW : Kept [] w2 W) => (hW.cell (p := ⟨p, 2, none⟩) hpl2 (by simp)).trans x2
 have cW3 := fun W (hW : Kept [] w2 W) => cW2 W (k12.trans hW)
 clear cW2
 rcases hO.2 with ⟨b1, o1⟩ | ⟨b1, n1, o1⟩ | ⟨b1, s1, l1, y1, zs1, zt1, slp1, stp1, A1, m1, c1, ps1, i1, o1, o2, o3, o4, o5, o6, o7⟩
 ·rcases hR.2 with ⟨b2, o2⟩ | ⟨b2, n2, o2⟩ | ⟨b2, _⟩
  ·cases o1
   cases o2
   have hf := fin none [] [] rfl rfl (by simp) (by simp) (by simp)
   have cs := fun W => sameLists_true W none none 0 0 0 0 [] [] (BytessAt.nil W) (BytessAt.nil W) rfl
   generalize logBad d f m = bad at *
   clear b2 b1 hO hR fin
   go_wp2_with fail
   refine (cs _).mono ?_
   rintro e w3 ⟨rfl, q3, rfl⟩
   clear cs
   have y2 := x2q _ (Kept.drewN [] w2 q3)
   go_wp2_with fail
   refine (cW3 _ (Kept.drewN [] w2 q3)).mono ?_
   rintro e w4 ⟨rfl, rfl⟩
   clear cW3
   go_wp2_with fail
   go_end0
   exact ⟨rfl, hf _ (Kept.drewN [] w2 q3)⟩
  ·exact absurd b2 b1
  ·exact absurd b2 b1
 ·rcases hR.2 with ⟨b2, o2⟩ | ⟨b2, n2, o2⟩ | ⟨b2, s2, l2, y2, zm2, zt2, sp2, A2, m2, c2, ps2, B2, i2, _⟩
  ·exact absurd b1 b2
  ·cases o1
   cases o2
   have hf := fin none [] [] rfl rfl (by simp) (by simp) (by simp)
   have cs := fun W => sameLists_true W none none 0 0 0 0 [] [] (BytessAt.nil W) (BytessAt.nil W) rfl
   clear b1 b2 hO hR fin n1 n2
   go_wp2_with fail
   refine (cs _).mono ?_
   rintro e w3 ⟨rfl, q3, rfl⟩
   clear cs
   have y2 := x2q _ (Kept.drewN [] w2 q3)
   go_wp2_with fail
   refine (cW3 _ (Kept.drewN [] w2 q3)).mono ?_
   rintro e w4 ⟨rfl, rfl⟩
   clear cW3
   go_wp2_with fail
   go_end0
   exact ⟨rfl, hf _ (Kept.drewN [] w2 q3)⟩
  ·exact absurd n1 i2.not
 ·rcases hR.2 with ⟨b2, q1⟩ | ⟨b2, n2, q1⟩ | ⟨b2, s2, l2, y2, zm2, zt2, sp2, A2, m2, c2, ps2, B2, i2, q1, q2, q3, q4, q5⟩
  ·exact absurd b1 b2
  ·exact absurd n2 i1.not
  ·cases o1
   cases q1
   obtain ⟨rfl, rfl⟩ := i1.same i2
   obtain ⟨g1, g2, g3, g4, g5⟩ := logBad_zero b1
   have hef : 1 ≤ eachOf m ∧ f.toNat + 2 + 2 * eachOf m ≤ d.secs.length := by unfold eachOf; omega
   have hok := (i1.ok hdw hef.1 hef.2 h.len).more (Nat.zero_le k)
   have hf := fin (some s1) (y1 :: (slp1 ++ stp1)) (y2 :: zm2 :: sp2) ⟨y1, zs1, zt1, slp1, stp1, rfl, (o2.new k2).toQ, fun j hj => by simpa using hj⟩ ⟨y2, zm2, zt2, sp2, B2, rfl, q2.q, fun j hj => by simpa using hj⟩ (fun j hj => by
    simp only [List.mem_cons, List.mem_append] at hj
    rcases hj with e | e | e
    ·exact ⟨o5 j (.inl e), e ▸ o2.yl⟩
    ·exact ⟨o5 j (.inr (.inl e)), o2.sl.lt j e⟩
    ·exact ⟨o5 j (.inr (.inr e)), o2.st.lt j e⟩) (fun j hj => by
    simp only [List.mem_cons] at hj
    rcases hj with e | e | e
    ·exact ⟨q5 j (.inl e), e ▸ q2.q.yl⟩
    ·exact ⟨q5 j (.inr (.inl e)), e ▸ q2.q.zl⟩
    ·exact ⟨q5 j (.inr (.inr e)), q2.q.st.lt j e⟩) (fun s hs => by cases hs; exact hok)
   have cs := sameLists_true w2 A1 A2 m1 c1 m2 c2 ps1 ps2 (o3.new k2) q3 (o4.trans q4.symm)
   clear b1 b2 hO hR fin o2 o3 o4 o5 o6 o7 q2 q3 q4 q5 i1 i2 hok hef
   go_wp2_with fail
   refine cs.mono ?_
   rintro e w3 ⟨rfl, q3, rfl⟩
   clear cs
   have y2' := x2q _ (Kept.drewN [] w2 q3)
   go_wp2_with fail
   refine (cW3 _ (Kept.drewN [] w2 q3)).mono ?_
   rintro e w4 ⟨rfl, rfl⟩
   clear cW3
   go_wp2_with fail
   go_end0
   exact ⟨rfl, hf _ (Kept.drewN [] w2 q3)⟩
end Go.Proofs.YtbnflbkaogpnbaaGreat
namespace Go.Proofs.YtbnflbkaogpnbaaGreat
set_option linter.unusedVariables false
open Go.RowKit
/-- A row of bytes of one's own. -/
structure BfAt (w : World) (g c : Nat) (X : List UInt8) : Prop where
 cells : ∃ cur : Array Value, w.heap[g]? = some (.cells cur 5 (0, 0)) ∧ cur.size = c ∧ cur.toList.take X.length = u8vs X
 le : X.length ≤ c
 max : c ≤ maxLen
theorem BfAt.of_own {w : World} {base : Nat} {v : Value} {n : Nat} {X : List UInt8} (h : w.ownsRow base 5 1 v n (u8vs X)) (hn : 0 < n) : ∃ g c, v = .slice (some ⟨g, 0, none⟩) n c ∧ BfAt w g c X ∧ base ≤ g := by
 obtain ⟨g, c, rfl, hb, hl⟩ := h.form hn
 have hX : X.length = n := by have := h.1; simpa [u8vs] using this
 refine ⟨g, c, rfl, ?_, hb⟩
 rcases h.2 with ⟨e, _⟩ | ⟨g2, c2, cur, e, _, hg, h1, h2, h3, h4⟩
 ·cases e
 ·cases e
  exact ⟨⟨cur, hg, by simpa using h3, by rw [hX]; simpa using h4⟩, by omega, h2⟩
theorem BfAt.lt {w : World} {g c : Nat} {X : List UInt8} (h : BfAt w g c X) : g < w.heap.size := by
 obtain ⟨cur, h1, h2, h3⟩ := h.cells
 exact World.lt_of_heap h1
theorem BfAt.cell {w : World} {g c : Nat} {X : List UInt8} (h : BfAt w g c X) {i : Nat} (hi : i < X.length) : w.cell? ⟨g, i, none⟩ = some (u8v (X[i]?.getD 0)) ∧ w.frozen? ⟨g, i, none⟩ = false := by
 obtain ⟨cur, h1, h2, h3⟩ := h.cells
 refine ⟨?_, blk_frozen h1 i⟩
 rw [blk_cell h1]
 have h4 := congrArg (fun l => l[i]?) h3
 simp only [List.getElem?_take, hi, if_true, u8vs, List.getElem?_map] at h4
 rw [← Array.getElem?_toList, h4, List.getElem?_eq_getElem hi]
 rfl
theorem BfAt.sl {w : World} {g c : Nat} {X : List UInt8} (h : BfAt w g c X) : SlAt w (some ⟨g, 0, none⟩) X.length c (u8vs X) :=
 ⟨by simp [u8vs], h.le, h.max, fun _ => ⟨g, 0, rfl, h.lt, fun i hi => by
  rw [Nat.zero_add, (h.cell hi).1]
  simp only [u8vs, List.getElem?_map, List.getElem?_eq_getElem hi]
  rfl⟩⟩
theorem BfAt.set {w : World} {g c : Nat} {X : List UInt8} (h : BfAt w g c X) {i : Nat} (hi : i < X.length) (x : UInt8) : BfAt (w.setCell ⟨g, i, none⟩ (u8v x)) g c (X.set i x) := by
 obtain ⟨cur, h1, h2, h3⟩ := h.cells
 refine ⟨⟨_, heap_set h1 i (u8v x), by simp [h2], ?_⟩, by rw [List.length_set]; exact h.le, h.max⟩
 have e : (cur.setIfInBounds i (u8v x)).toList = cur.toList.set i (u8v x) := by simp
 rw [e, List.length_set, List.take_set, h3]
 simp [u8vs, List.map_set]
theorem u8_pow_ {R : Nat} (h : R < 8) : IntKind.u8.wrap (2 ^ R) = ((2 ^ R : Nat) : Int) := by
 have : R = 0 ∨ R = 1 ∨ R = 2 ∨ R = 3 ∨ R = 4 ∨ R = 5 ∨ R = 6 ∨ R = 7 := by omega
 rcases this with rfl | rfl | rfl | rfl | rfl | rfl | rfl | rfl <;> decide
theorem write_len (d : Dev) (i : Int) (b : Blk) : (d.write i b).1.secs.length = d.secs.length := by
 have := writes_len [b] d i
 have h1 : ∀ y : Dev × Int, (if y.2 = 0 then Dev.writes y.1 (i + 1) [] else y).1 = y.1 := fun y => by
  split
  ·rfl
  ·rfl
 rw [Dev.writes, h1] at this
 exact this
end Go.Proofs.YtbnflbkaogpnbaaGreat
