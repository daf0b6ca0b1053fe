/- Texts in one: KE. -/
import Derived.Test.YtbnflbkaogpnbaaGreatPAZ
import Derived.Test.YtbnflbkaogpnbaaGreatPBB
namespace Go.Proofs.YtbnflbkaogpnbaaGreat
set_option linter.unusedVariables false
open Go.RowKit
theorem Dev.Wf.writesOk : ∀ (cs : List Blk) {d : Dev} (q : Int), d.Wf → (d.writes q cs).1.Wf := by
 intro cs
 induction cs with
 | nil => intro d q h; exact h
 | cons c cs ih =>
  intro d q h
  rw [Dev.writes]
  split
  ·exact ih _ (h.writeOk q c)
  ·exact h.writeOk q c
theorem St.appendOk {s : St} {d : Dev} (b : List UInt8) (h : d.Wf) : (s.append d b).2.1.Wf := by
 unfold St.append
 split
 ·exact h
 ·split
  ·exact h
  ·simp only
   split
   ·exact h.writesOk _ _
   ·exact h.writesOk _ _
/-- A half of the document's log, opened anew. -/
def HfR (w : World) (r N m : Nat) (e : Ending) (w' : World) : Prop :=
 ∃ zt sp A n c, e = .returned (.tuple #[.pointer (some ⟨zt, 0, none⟩), .slice A n c, .int .i64 0]) ∧ Kept [] w w' ∧ RtAt w' zt r sp ⟨N, m, 0, []⟩ [] ∧ ∀ j ∈ sp, w.heap.size ≤ j
theorem ref_half {w : World} {r : Nat} {gp : List Nat} {d : Dev} (hR : Rv w r gp d) (hw : d.Wf) (hd : d.dead = false) {N m : Nat} (h1 : 1 ≤ m) (hth : N + m ≤ d.secs.length) : Calls Tryz.prog 92 #[.pointer (some ⟨r, 0, none⟩), .int .i64 N, .int .i64 m, .int .i64 0] w (HfR w r N m) := by
 have hmx := hw.many
 have hob : openBad d N m 0 = 0 := by
  unfold openBad
  rw [if_neg (by have h0 := at_live_ hd (i := 0) (by omega); simp at h0; simp [h0]), if_neg (by omega), if_neg (by omega)]
 refine (ref12Open_any hR hw N m 0 (by unfold I64; omega) (by unfold I64; omega) (by unfold I64; omega)).mono ?_
 simp only [RtOpen, Int.toNat_natCast, hob, Int.toNat_zero, List.take_zero, List.drop_nil]
 rintro e w' ⟨hk, ⟨h, _⟩ | ⟨_, h, _⟩ | ⟨_, z, sp, A, n, c, ps, rfl, g1, g2, g3, g4, g5⟩⟩
 ·exact absurd rfl h
 ·exact absurd rfl (h [] (fun b hb => by simp at hb))
 ·exact ⟨z, sp, A, n, c, rfl, hk, g4, g5⟩
/-- The document's log that is replaced: its other strip beside it. -/
structure RqAt (w0 wr : World) (y zm zt zt2 r F : Nat) (gp0 sp gp sp2 : List Nat) (s : Sp) (st : St) (d : Dev) (B B2 : List UInt8) : Prop where
 lg : RgP wr y zm zt r F gp sp s d B
 st2 : RtAt wr zt2 r sp2 st B2
 y2 : y ∉ sp2
 z2 : zm ∉ sp2
 d1 : ∀ j ∈ sp2, j ∉ gp
 d3 : ∀ j ∈ sp, j ∉ sp2
 step : RgS w0 wr y zm gp0 sp gp sp
 new : ∀ j ∈ sp2, w0.heap.size ≤ j
theorem RqAt.append {w0 wr w2 : World} {y zm zt zt2 r F : Nat} {gp0 sp gp sp2 gp' sp' : List Nat} {s : Sp} {st st' : St} {d d' : Dev} {B B2 B2' : List UInt8} (h : RqAt w0 wr y zm zt zt2 r F gp0 sp gp sp2 s st d B B2) (hD : Rv w2 r gp' d') (hS : RtAt w2 zt2 r sp' st' B2') (hk : Kept (gp ++ sp2) wr w2) (hf : ∀ j ∈ gp', j ∈ gp ∨ wr.heap.size ≤ j) (hp : ∀ j ∈ sp', j ∈ sp2 ∨ wr.heap.size ≤ j) (hd : ∀ j ∈ sp', j ∉ gp') :
  RqAt w0 w2 y zm zt zt2 r F gp0 sp gp' sp' s st' d' B B2' := by
 have hz := h.step.kept.size
 have fresh : ∀ {j}, j < wr.heap.size → j ∉ gp → j ∉ gp' := fun hj hf' hm => by
  rcases hf _ hm with e | e
  ·exact hf' e
  ·omega
 have fresh2 : ∀ {j}, j < wr.heap.size → j ∉ sp2 → j ∉ sp' := fun hj hf' hm => by
  rcases hp _ hm with e | e
  ·exact hf' e
  ·omega
 have na : ∀ {j : Nat}, j ∉ gp → j ∉ sp2 → j ∉ gp ++ sp2 := fun h1 h2 hm => by
  rcases List.mem_append.mp hm with e | e
  ·exact h1 e
  ·exact h2 e
 have hq := h.lg.q
 refine ⟨⟨hq.kept hk (na h.lg.y1 h.y2) (na h.lg.z1 h.z2) (fun j hj => na (h.lg.d2 j hj) (h.d3 j hj)), hD, fresh hq.yl h.lg.y1, fresh hq.zl h.lg.z1, fun j hj => fresh (hq.st.lt j hj) (h.lg.d2 j hj)⟩,
  hS, fresh2 hq.yl h.y2, fresh2 hq.zl h.z2, hd, fun j hj => fresh2 (hq.st.lt j hj) (h.d3 j hj), ⟨h.step.kept.trans' hk (fun i hi => ?_), fun j hj => ?_, fun j hj => .inl hj⟩, fun j hj => ?_⟩
 ·rcases List.mem_append.mp hi with e | e
  ·rcases h.step.g i e with g | g
   ·exact .inl (by simp [g])
   ·exact .inr g
  ·exact .inr (h.new i e)
 ·rcases hf j hj with e | e
  ·exact h.step.g j e
  ·exact .inr (by omega)
 ·rcases hp j hj with e | e
  ·exact h.new j e
  ·omega
/-- A deed of the document's device, in the midst. -/
theorem RqAt.devD {w0 wr w2 : World} {y zm zt zt2 r F : Nat} {gp0 sp gp sp2 gp' : List Nat} {s : Sp} {st : St} {d d' : Dev} {B B2 : List UInt8} (h : RqAt w0 wr y zm zt zt2 r F gp0 sp gp sp2 s st d B B2) (hD : Rv w2 r gp' d') (hk : Kept gp wr w2) (hf : ∀ j ∈ gp', j ∈ gp ∨ wr.heap.size ≤ j) :
  RqAt w0 w2 y zm zt zt2 r F gp0 sp gp' sp2 s st d' B B2 :=
 h.append hD (h.st2.kept hk h.d1) (hk.mono (fun i hi => .inl (by simp [hi]))) hf (fun j hj => .inl hj) (fun j hj hm => by
  rcases hf j hm with e | e
  ·exact h.d1 j hj e
  ·have := h.st2.lt j hj; omega)
/-- Replace's second loop: the records so far. -/
def RqRel (w0 : World) (y zm zt zt2 r F : Nat) (gp0 sp : List Nat) (s : Sp) (d : Dev) (B : List UInt8) (l : List (List UInt8)) (i : Value) (wr : World) : Prop :=
 ∃ (k : Nat) (st : St) (d' : Dev) (gp sp2 : List Nat) (B2 : List UInt8), k ≤ l.length ∧ i = .int .i64 k ∧ (s.empty (1 - s.half)).appends d (l.take k) = (st, d', 0) ∧ d'.Wf ∧ RqAt w0 wr y zm zt zt2 r F gp0 sp gp sp2 s st d' B B2
/-- What a Replace leaves. -/
def RgW (w : World) (y zm r F : Nat) (gp sp : List Nat) (s : Sp) (d : Dev) (n : Int) (e : Ending) (w' : World) : Prop :=
 e = .returned (.int .i64 n) ∧ ∃ zt' gp' sp' B', RgP w' y zm zt' r F gp' sp' s d B' ∧ RgS w w' y zm gp sp gp' sp'
theorem RgW.of {w w' : World} {y zm zt r F : Nat} {gp sp gp' sp' : List Nat} {s : Sp} {d : Dev} {n : Int} {B' : List UInt8} (h : RgP w' y zm zt r F gp' sp' s d B') (hs : RgS w w' y zm gp sp gp' sp') : RgW w y zm r F gp sp s d n (.returned (.int .i64 n)) w' := ⟨rfl, zt, gp', sp', B', h, hs⟩
theorem rq_out {w : World} {y zm zt zt2 r F : Nat} {gp sp sp2 : List Nat} {s : Sp} {d : Dev} {st : St} {B B2 : List UInt8} {hf n : Nat} (h : RgP w y zm zt r F gp sp s d B) (hT : RtAt w zt2 r sp2 st B2) (g1 : y ∉ sp2) (g2 : zm ∉ sp2) (g3 : ∀ j ∈ sp2, j ∉ gp) :
  RgP ((((w.setCell ⟨y, 5, none⟩ (.int .i64 hf)).setCell ⟨y, 2, none⟩ (.pointer (some ⟨zt2, 0, none⟩))).setCell ⟨y, 6, none⟩ (.int .i64 n)).setCell ⟨y, 7, none⟩ (.bool false)) y zm zt2 r F gp sp2 { s with half := hf, st := st, many := n, added := false } d B2 ∧
  Kept [y] w ((((w.setCell ⟨y, 5, none⟩ (.int .i64 hf)).setCell ⟨y, 2, none⟩ (.pointer (some ⟨zt2, 0, none⟩))).setCell ⟨y, 6, none⟩ (.int .i64 n)).setCell ⟨y, 7, none⟩ (.bool false)) := by
 have hk : Kept [y] w ((((w.setCell ⟨y, 5, none⟩ (.int .i64 hf)).setCell ⟨y, 2, none⟩ (.pointer (some ⟨zt2, 0, none⟩))).setCell ⟨y, 6, none⟩ (.int .i64 n)).setCell ⟨y, 7, none⟩ (.bool false)) :=
  (((Kept.setCell (by simp) _).trans (Kept.setCell (by simp) _)).trans (Kept.setCell (by simp) _)).trans (Kept.setCell (by simp) _)
 have ny : ∀ {F : List Nat}, y ∉ F → ∀ j ∈ F, j ∉ [y] := fun hF j hj hm => hF (by simp at hm; exact hm ▸ hj)
 exact ⟨⟨⟨heap_set (heap_set (heap_set (heap_set h.q.head 5 _) 2 _) 6 _) 7 _, h.q.sl.kept hk (fun hm => h.q.yz (by simp at hm; exact hm.symm)), hT.kept hk (ny g1), h.q.fst, g1, h.q.yz, g2⟩, h.dv.kept hk (ny h.y1), h.y1, h.z1, g3⟩, hk⟩
set_option maxHeartbeats 8000000 in
set_option maxRecDepth 100000 in
theorem ref13Replace_any {w : World} {y zm zt r F : Nat} {gp sp : List Nat} {s : Sp} {d : Dev} {B : List UInt8} (h : RgP w y zm zt r F gp sp s d B) (hdw : d.Wf) (h1 : s.half ≤ 1) (he1 : 1 ≤ s.each) (hg : s.first + 2 * s.each ≤ d.secs.length)
  (hnw : s.sl.newer ≤ 1) (htn : s.sl.turn < 9223372036854775000) (hfi : s.sl.first < 9223372036854775000) (hwk : d.works < 9223372036800000000)
  (A : Option Addr) (n c : Nat) (ps : List Part) (hB : BytessAt w A n c ps) (hn : n ≤ 1000) (hA : ∀ p, A = some p → 0 < n → p.block ∉ y :: zm :: (gp ++ sp)) (hps : ∀ q ∈ ps, ∀ p, q.A = some p → 0 < q.n → p.block ∉ y :: zm :: (gp ++ sp)) :
  Calls Tryz.prog 62 #[.pointer (some ⟨y, 0, none⟩), .slice A n c] w (RgW w y zm r F gp sp (s.replace d (texts ps)).1 (s.replace d (texts ps)).2.1 (s.replace d (texts ps)).2.2) := by
 have hsz12 := fun n W => refSize12_any n W
 cases hw : s.wrong d with
 | true =>
  have e1 : s.replace d (texts ps) = (s.touch d, d, 100) := by unfold Sp.replace; rw [if_pos hw]
  have cw := ref_wrong_yes h hw
  rw [e1]
  clear e1 hps hA hB hsz12
  go_enter Tryz.func62, Tryz.ntmps62
  go_wp2_with fail
  refine cw.mono ?_
  rintro e w1 ⟨rfl, hP1, hk1⟩
  go_wp2_with fail
  go_ret
  exact .of hP1 (.own hk1)
 | false =>
  have hdd : d.dead = false := by
   unfold Sp.wrong at hw
   cases hx : d.dead with
   | false => rfl
   | true => rw [hx] at hw; simp at hw
  have hlive : d.Live := ⟨hdd, hdw.size⟩
  have hfa := hdw.fail0; have hti := hdw.till0
  have hS0 : SInv (s.empty (1 - s.half)) d [] := SInv.empty (by omega) he1 hg
  have hth' := half_room (show 1 - s.half ≤ 1 by omega) hg
  have hmx := hdw.many
  obtain ⟨l, hl⟩ : ∃ l, texts ps = l := ⟨_, rfl⟩
  have hll : l.length = n := by rw [← hl]; simp [texts, hB.len]
  rw [hl]
  have hbigE : ∀ b, b ∈ l → 16384 < b.length → s.replace d l = (s, d, 5) := fun b hb hb2 => by
   unfold Sp.replace
   rw [if_neg (by rw [hw]; decide), if_pos (by rw [List.any_eq_true]; exact ⟨b, hb, by simpa using hb2⟩)]
  have hnc := hB.le; have hcm := hB.max
  unfold maxLen at hcm
  have cw := ref_wrong_no h hw
  have hw6 : IntKind.i64.wrap (1 - (s.half : Int)) = ((1 - s.half : Nat) : Int) := by rw [IntKind.wrap_i64]; omega
  obtain ⟨hf, hhf⟩ : ∃ hf, 1 - s.half = hf := ⟨_, rfl⟩
  have hfl : hf ≤ 1 := by omega
  have HB := Lib.hid hB; have HL := Lib.hid hl; have HLL := Lib.hid hll; have HBE := Lib.hid hbigE; have HW := Lib.hid hw
  clear hB hl hbigE hll hw
  go_enter Tryz.func62, Tryz.ntmps62
  go_wp2_with fail
  refine cw.mono ?_
  rintro e w1 ⟨rfl, hP1, hk1⟩
  have hs1 : RgS w w1 y zm gp sp gp sp := .own hk1
  have hB1 : BytessAt w1 A n c ps := HB.out.keptP hs1.kept hA hps
  clear cw
  go_wp2_with fail
  go_loopw [6, 7] (fun v6 i wr => RsRel w1 l v6 i wr) (fun _ i _ => n - (intOf i).toNat)
  case atStart => exact ⟨0, Nat.zero_le _, fun b hb => by simp at hb, rfl, by simp [allSize], rfl⟩
  case round =>
   obtain ⟨k, hk, hks, rfl, rfl, rfl⟩ := hrel
   rw [HLL.out] at hk
   by_cases hlt : k < n
   ·have i1 : (k : Int) < (n : Int) := by omega
    obtain ⟨b, o, p, rfl, hbl, hpk, hpa, hc⟩ := hB1.at_ hlt
    have hlk : l[k]? = some p.xs := by rw [← HL.out]; simp [texts, hpk]
    have hpn : p.xs.length = p.n := by simpa [u8vs] using hpa.1.len
    by_cases hbig : 16384 < p.n
    ·have i2 : (16384 : Int) < (p.n : Int) := by omega
     have hE := Lib.hid (HBE.out p.xs (List.mem_of_getElem? hlk) (by omega))
     clear hpk hlk hpn hks hbig hsz12
     go_wp2_with fail
     go_ret
     rw [hE.out]
     exact .of hP1 hs1
    ·have i2 : ¬ (16384 : Int) < (p.n : Int) := by omega
     have cz := fun W => hsz12 (p.n : Int) W
     have hsz : stripSize (p.n : Int) = (p.n : Int) + 7 := by unfold stripSize; rw [if_neg (by omega)]
     simp only [hsz] at cz
     have hb1 := allSize_small _ hks
     have hb2 : (l.take k).length ≤ 1000 := by rw [List.length_take]; omega
     have hsum : allSize (l.take (k + 1)) = allSize (l.take k) + (p.n + 7) := by rw [take_snoc hlk, allSize_append]; simp [allSize, hpn]
     have hks2 : Small (l.take (k + 1)) := by
      rw [take_snoc hlk]
      intro x hx
      rcases List.mem_append.mp hx with e | e
      ·exact hks x e
      ·simp only [List.mem_singleton] at e
       rw [e, hpn]
       omega
     have hww : IntKind.i64.wrap ((allSize (l.take k) : Int) + ((p.n : Int) + 7)) = ((allSize (l.take (k + 1)) : Nat) : Int) := by rw [hsum, IntKind.wrap_i64]; omega
     clear hsum hsz hks hpk hlk hpn hb1 hb2 hsz12
     go_wp2_with fail
     refine (cz _).mono ?_
     rintro e w2 ⟨rfl, rfl⟩
     clear cz
     go_wp2_with fail
     go_roundw
     case rel => exact ⟨k + 1, by rw [HLL.out]; omega, hks2, by go_num, rfl, rfl⟩
     case measure => simp [intOf]; omega
   ·obtain rfl : k = n := by omega
    have htk : l.take k = l := List.take_of_length_le (by rw [HLL.out]; exact Nat.le_refl _)
    rw [htk] at hks ⊢
    have hany : l.any (fun b => decide (16384 < b.length)) = false := by
     rw [List.any_eq_false]
     intro b hb
     have := hks b hb
     simp; omega
    have hall : allSize l ≤ 16391000 := by
     have h2 := allSize_small _ hks
     rw [HLL.out] at h2
     omega
    clear hsz12 htk
    obtain ⟨c0, -, c2, c3, c4, c5, -, -, -, -⟩ := hP1.q.cells
    have hw5 : IntKind.i64.wrap (128 * (s.each : Int)) = 128 * (s.each : Int) := by rw [IntKind.wrap_i64]; omega
    by_cases hbg : 128 * s.each < allSize l
    ·have i5 : 128 * (s.each : Int) < (allSize l : Int) := by omega
     have hrp : s.replace d l = (s, d, 101) := by
      unfold Sp.replace
      rw [if_neg (by rw [HW.out]; decide), if_neg (by rw [hany]; decide), if_pos hbg]
     have HRP := Lib.hid hrp
     clear hrp hbg hany
     go_wp2_with fail
     go_ret
     rw [HRP.out]
     exact .of hP1 hs1
    ·have i5 : ¬ 128 * (s.each : Int) < (allSize l : Int) := by omega
     obtain ⟨AP, hAP⟩ : ∃ AP, (s.empty (1 - s.half)).appends d l = AP := ⟨_, rfl⟩
     have hrp : s.replace d l = if AP.2.2 ≠ 0 then (s, AP.2.1, AP.2.2) else if (s.save AP.2.1 (manB (1 - s.half) AP.1.fin l.length)).2.2 ≠ 0 then s.save AP.2.1 (manB (1 - s.half) AP.1.fin l.length) else ({ (s.save AP.2.1 (manB (1 - s.half) AP.1.fin l.length)).1 with half := 1 - s.half, st := AP.1, many := l.length, added := false }, (s.save AP.2.1 (manB (1 - s.half) AP.1.fin l.length)).2.1, 0) := by
      unfold Sp.replace
      rw [if_neg (by rw [HW.out]; decide), if_neg (by rw [hany]; decide), if_neg hbg]
      simp only [hAP]
     have HRP := Lib.hid hrp; have HAP := Lib.hid hAP
     rw [hhf] at hw6 hth'
     have hfst := hP1.q.fst
     have cp := fun W => ref13place_any W F s.each hf hfl (by omega) (by omega)
     have eN : F + 2 + hf * s.each = s.first + hf * s.each := by omega
     rw [eN] at cp
     have co := fun W (hk : Kept [] wr W) => ref_half (hP1.new hk).dv hdw hdd he1 hth'
     obtain ⟨NN, hNN⟩ : ∃ NN, s.first + hf * s.each = NN := ⟨_, rfl⟩
     rw [hNN] at cp co
     have HNN := Lib.hid hNN
     clear hNN
     have hPd := hP1.new (Kept.drew [] wr)
     obtain ⟨k0, -, k2, k3, k4, k5, -, -, -, -⟩ := hPd.q.cells
     clear hrp hAP hbg hany c0 c2 c3 c5 eN
     go_wp2_with fail
     refine wp_region_calm (S := (fun W => W.cell? ⟨y, 0, none⟩ = some (.pointer (some ⟨r, 0, none⟩)) ∧ W.cell? ⟨y, 3, none⟩ = some (.int .i64 F) ∧ W.cell? ⟨y, 4, none⟩ = some (.int .i64 s.each) ∧ W.cell? ⟨y, 5, none⟩ = some (.int .i64 s.half))) (by kernel_rfl) (show _ ∧ _ ∧ _ ∧ _ from ⟨k0, k3, k4, k5⟩) (fun hHeld => ?_)
     refine tk (i := 0) (v := ?_) (hy := Or.inl ⟨by rfl, ?_⟩) (hS := hHeld) (h := ?_)
     rotate_left
     ·intro w hSw
      try dsimp only at hSw
      go_simp
      all_goals with_reducible rfl
     try simp only [Act.put, List.setIfInBounds_toArray, List.set_cons_zero, List.set_cons_succ]
     refine tk (i := 1) (v := ?_) (hy := Or.inl ⟨by rfl, ?_⟩) (hS := hHeld) (h := ?_)
     rotate_left
     ·intro w hSw
      try dsimp only at hSw
      go_simp
      all_goals with_reducible rfl
     try simp only [Act.put, List.setIfInBounds_toArray, List.set_cons_zero, List.set_cons_succ]
     refine tk (i := 2) (v := ?_) (hy := Or.inl ⟨by rfl, ?_⟩) (hS := hHeld) (h := ?_)
     rotate_left
     ·intro w hSw
      try dsimp only at hSw
      go_simp
      all_goals with_reducible rfl
     try simp only [Act.put, List.setIfInBounds_toArray, List.set_cons_zero, List.set_cons_succ]
     refine tk (i := 3) (v := ?_) (hy := Or.inl ⟨by rfl, ?_⟩) (hS := hHeld) (h := ?_)
     rotate_left
     ·intro w hSw
      try dsimp only at hSw
      obtain ⟨s0, s1, s2, s3⟩ := hSw
      go_simp
      all_goals with_reducible rfl
     try simp only [Act.put, List.setIfInBounds_toArray, List.set_cons_zero, List.set_cons_succ]
     refine tk (i := 4) (v := ?_) (hy := Or.inl ⟨by rfl, ?_⟩) (hS := hHeld) (h := ?_)
     rotate_left
     ·intro w hSw
      try dsimp only at hSw
      go_simp
      all_goals with_reducible rfl
     try simp only [Act.put, List.setIfInBounds_toArray, List.set_cons_zero, List.set_cons_succ]
     refine tk (i := 5) (v := ?_) (hy := Or.inl ⟨by rfl, ?_⟩) (hS := hHeld) (h := ?_)
     rotate_left
     ·intro w hSw
      try dsimp only at hSw
      go_simp
      all_goals with_reducible rfl
     try simp only [Act.put, List.setIfInBounds_toArray, List.set_cons_zero, List.set_cons_succ]
     refine tk (i := 6) (v := ?_) (hy := Or.inl ⟨by rfl, ?_⟩) (hS := hHeld) (h := ?_)
     rotate_left
     ·intro w hSw
      try dsimp only at hSw
      go_simp
      all_goals with_reducible rfl
     try simp only [Act.put, List.setIfInBounds_toArray, List.set_cons_zero, List.set_cons_succ]
     refine tk (i := 7) (v := ?_) (hy := Or.inl ⟨by rfl, ?_⟩) (hS := hHeld) (h := ?_)
     rotate_left
     ·intro w hSw
      try dsimp only at hSw
      obtain ⟨s0, s1, s2, s3⟩ := hSw
      go_simp
      all_goals with_reducible rfl
     try simp only [Act.put, List.setIfInBounds_toArray, List.set_cons_zero, List.set_cons_succ]
     refine tk (i := 8) (v := ?_) (hy := Or.inl ⟨by rfl, ?_⟩) (hS := hHeld) (h := ?_)
     rotate_left
     ·intro w hSw
      try dsimp only at hSw
      go_simp
      all_goals with_reducible rfl
     try simp only [Act.put, List.setIfInBounds_toArray, List.set_cons_zero, List.set_cons_succ]
     refine tk (i := 9) (v := ?_) (hy := Or.inl ⟨by rfl, ?_⟩) (hS := hHeld) (h := ?_)
     rotate_left
     ·intro w hSw
      try dsimp only at hSw
      go_simp
      all_goals with_reducible rfl
     try simp only [Act.put, List.setIfInBounds_toArray, List.set_cons_zero, List.set_cons_succ]
     refine tk (i := 10) (v := ?_) (hy := Or.inl ⟨by rfl, ?_⟩) (hS := hHeld) (h := ?_)
     rotate_left
     ·intro w hSw
      try dsimp only at hSw
      go_simp
      all_goals with_reducible rfl
     try simp only [Act.put, List.setIfInBounds_toArray, List.set_cons_zero, List.set_cons_succ]
     refine tk (i := 11) (v := ?_) (hy := Or.inl ⟨by rfl, ?_⟩) (hS := hHeld) (h := ?_)
     rotate_left
     ·intro w hSw
      try dsimp only at hSw
      obtain ⟨s0, s1, s2, s3⟩ := hSw
      go_simp
      all_goals with_reducible rfl
     try simp only [Act.put, List.setIfInBounds_toArray, List.set_cons_zero, List.set_cons_succ]
     refine tk (i := 12) (v := ?_) (hy := Or.inl ⟨by rfl, ?_⟩) (hS := hHeld) (h := ?_)
     rotate_left
     ·intro w hSw
      try dsimp only at hSw
      go_simp
      all_goals with_reducible rfl
     try simp only [Act.put, List.setIfInBounds_toArray, List.set_cons_zero, List.set_cons_succ]
     refine tk (i := 13) (v := ?_) (hy := Or.inl ⟨by rfl, ?_⟩) (hS := hHeld) (h := ?_)
     rotate_left
     ·intro w hSw
      try dsimp only at hSw
      go_simp
      all_goals with_reducible rfl
     try simp only [Act.put, List.setIfInBounds_toArray, List.set_cons_zero, List.set_cons_succ]
     refine tk (i := 14) (v := ?_) (hy := Or.inl ⟨by rfl, ?_⟩) (hS := hHeld) (h := ?_)
     rotate_left
     ·intro w hSw
      try dsimp only at hSw
      go_simp
      all_goals with_reducible rfl
     try simp only [Act.put, List.setIfInBounds_toArray, List.set_cons_zero, List.set_cons_succ]
     refine tk (i := 15) (v := ?_) (hy := Or.inl ⟨by rfl, ?_⟩) (hS := hHeld) (h := ?_)
     rotate_left
     ·intro w hSw
      try dsimp only at hSw
      obtain ⟨s0, s1, s2, s3⟩ := hSw
      go_simp
      all_goals with_reducible rfl
     try simp only [Act.put, List.setIfInBounds_toArray, List.set_cons_zero, List.set_cons_succ]
     refine tk (i := 16) (v := ?_) (hy := Or.inl ⟨by rfl, ?_⟩) (hS := hHeld) (h := ?_)
     rotate_left
     ·intro w hSw
      try dsimp only at hSw
      go_simp
      all_goals with_reducible rfl
     try simp only [Act.put, List.setIfInBounds_toArray, List.set_cons_zero, List.set_cons_succ]
     try simp only [hw6]
     refine tk (i := 18) (v := ?_) (hy := Or.inl ⟨by rfl, ?_⟩) (hS := hHeld) (h := ?_)
     rotate_left
     ·intro w hSw
      try dsimp only at hSw
      go_simp
      all_goals with_reducible rfl
     try simp only [Act.put, List.setIfInBounds_toArray, List.set_cons_zero, List.set_cons_succ]
     refine tk (i := 19) (v := ?_) (hy := Or.inl ⟨by rfl, ?_⟩) (hS := hHeld) (h := ?_)
     rotate_left
     ·intro w hSw
      try dsimp only at hSw
      go_simp
      all_goals with_reducible rfl
     try simp only [Act.put, List.setIfInBounds_toArray, List.set_cons_zero, List.set_cons_succ]
     refine tk (i := 20) (v := ?_) (hy := Or.inl ⟨by rfl, ?_⟩) (hS := hHeld) (h := ?_)
     rotate_left
     ·intro w hSw
      try dsimp only at hSw
      go_simp
      all_goals with_reducible rfl
     try simp only [Act.put, List.setIfInBounds_toArray, List.set_cons_zero, List.set_cons_succ]
     refine tk (i := 21) (v := ?_) (hy := Or.inl ⟨by rfl, ?_⟩) (hS := hHeld) (h := ?_)
     rotate_left
     ·intro w hSw
      try dsimp only at hSw
      obtain ⟨s0, s1, s2, s3⟩ := hSw
      go_simp
      all_goals with_reducible rfl
     try simp only [Act.put, List.setIfInBounds_toArray, List.set_cons_zero, List.set_cons_succ]
     refine wpAnyH_ready (rs := [17]) (by kernel_rfl) (by simp) ?_
     refine AllReadyH.cons (by simp only [List.getElem?_toArray, List.getElem?_cons_succ, List.getElem?_cons_zero]; rfl) (fun K hK => ?_) AllReadyH.nil
     go_simp
     refine (cp _).mono ?_
     rintro e w3 ⟨rfl, rfl⟩
     go_wp2_with fail
     refine hK.out _ _ ?_ (fun hHeld2 => ?_)
     ·exact ⟨k0, k3, k4, k5⟩
     clear hK K hHeld
     have hHeld := hHeld2
     clear hHeld2
     try simp only [Act.put, List.setIfInBounds_toArray, List.set_cons_zero, List.set_cons_succ]
     refine wpAnyH_ready (rs := [22]) (by kernel_rfl) (by simp) ?_
     refine AllReadyH.cons (by simp only [List.getElem?_toArray, List.getElem?_cons_succ, List.getElem?_cons_zero]; rfl) (fun K hK => ?_) AllReadyH.nil
     go_simp
     refine (co _ (Kept.drew [] wr)).mono ?_
     rintro e w3 ⟨zt2, sp2, A3, n3, c3', rfl, hk3, hS3, hst3⟩
     have hP3 := hPd.new hk3
     obtain ⟨j0, -, j2, j3, j4, j5, -, -, -, -⟩ := hP3.q.cells
     go_wp2_with fail
     refine hK.out _ _ ?_ (fun hHeld2 => ?_)
     ·exact ⟨j0, j3, j4, j5⟩
     clear hK K hHeld
     have hHeld := hHeld2
     clear hHeld2
     try simp only [Act.put, List.setIfInBounds_toArray, List.set_cons_zero, List.set_cons_succ]
     refine tk (i := 23) (v := ?_) (hy := Or.inl ⟨by rfl, ?_⟩) (hS := hHeld) (h := ?_)
     rotate_left
     ·intro w hSw
      try dsimp only at hSw
      go_simp
      all_goals with_reducible rfl
     try simp only [Act.put, List.setIfInBounds_toArray, List.set_cons_zero, List.set_cons_succ]
     refine tk (i := 24) (v := ?_) (hy := Or.inl ⟨by rfl, ?_⟩) (hS := hHeld) (h := ?_)
     rotate_left
     ·intro w hSw
      try dsimp only at hSw
      go_simp
      all_goals with_reducible rfl
     try simp only [Act.put, List.setIfInBounds_toArray, List.set_cons_zero, List.set_cons_succ]
     refine tk (i := 25) (v := ?_) (hy := Or.inl ⟨by rfl, ?_⟩) (hS := hHeld) (h := ?_)
     rotate_left
     ·intro w hSw
      try dsimp only at hSw
      go_simp
      all_goals with_reducible rfl
     try simp only [Act.put, List.setIfInBounds_toArray, List.set_cons_zero, List.set_cons_succ]
     refine tk (i := 26) (v := ?_) (hy := Or.inl ⟨by rfl, ?_⟩) (hS := hHeld) (h := ?_)
     rotate_left
     ·intro w hSw
      try dsimp only at hSw
      go_simp
      all_goals with_reducible rfl
     try simp only [Act.put, List.setIfInBounds_toArray, List.set_cons_zero, List.set_cons_succ]
     refine tk (i := 27) (v := ?_) (hy := Or.inl ⟨by rfl, ?_⟩) (hS := hHeld) (h := ?_)
     rotate_left
     ·intro w hSw
      try dsimp only at hSw
      go_simp
      all_goals with_reducible rfl
     try simp only [Act.put, List.setIfInBounds_toArray, List.set_cons_zero, List.set_cons_succ]
     refine tk (i := 28) (v := ?_) (hy := Or.inl ⟨by rfl, ?_⟩) (hS := hHeld) (h := ?_)
     rotate_left
     ·intro w hSw
      try dsimp only at hSw
      go_simp
      all_goals with_reducible rfl
     try simp only [Act.put, List.setIfInBounds_toArray, List.set_cons_zero, List.set_cons_succ]
     refine tk (i := 29) (v := ?_) (hy := Or.inl ⟨by rfl, ?_⟩) (hS := hHeld) (h := ?_)
     rotate_left
     ·intro w hSw
      try dsimp only at hSw
      go_simp
      all_goals with_reducible rfl
     try simp only [Act.put, List.setIfInBounds_toArray, List.set_cons_zero, List.set_cons_succ]
     refine wpAnyH_calm (by kernel_rfl) ?_ _
     have hs3 : RgS w w3 y zm gp sp gp sp := (hs1.trans (.new (Kept.drew [] wr))).trans (.new hk3)
     have hsz3 := hs3.kept.size; have hszr := (Kept.drew [] wr).size
     clear hHeld cp co k0 k2 k3 k4 k5 j0 j2 j3 j4 j5 c4
     go_wp2_with fail
     go_loopw [11, 12] (fun i _ wr => RqRel w y zm zt zt2 r F gp sp s d B l i wr) (fun i _ _ => k - (intOf i).toNat)
     case atStart =>
      have hz1 := hs1.kept.size
      refine ⟨0, _, d, gp, sp2, [], Nat.zero_le _, rfl, rfl, hdw, hP3, ?_, ?_, ?_, ?_, ?_, hs3, ?_⟩
      ·rw [← HNN.out, ← hhf] at hS3
       exact hS3
      ·exact fun hm => by have h2 := hst3 y hm; have h3 := hP1.q.yl; omega
      ·exact fun hm => by have h2 := hst3 zm hm; have h3 := hP1.q.zl; omega
      ·exact fun j hj hm => by have h2 := hst3 j hj; have h3 := hP1.dv.lt j hm; omega
      ·exact fun j hj hm => by have h2 := hst3 j hm; have h3 := hP1.q.st.lt j hj; omega
      ·exact fun j hj => by have h2 := hst3 j hj; omega
     case round =>
      obtain ⟨j, st, d', gp', sp2', B2, hj, rfl, hap, hdw', hR⟩ := hrel
      rw [HLL.out] at hj
      clear hP3 hs3 hS3 hst3 hk3
      have hao := hS0.appends_any (l.take j) hlive hfa hti (hks.take j) (by have h2 := allSize_take l j; have h3 : (s.empty (1 - s.half)).fin = 0 := rfl; have h4 : (s.empty (1 - s.half)).many = s.each := rfl; rw [h3, h4]; omega)
      have hws := hao.works
      have hallj := allSize_take l j
      have hways := hao.ways
      rw [hap] at hws hways
      replace hws : d.works ≤ d'.works ∧ d'.works ≤ d.works + 2 * allSize (l.take j) := hws
      obtain ⟨hlv, hsi, hsm2⟩ : d'.Live ∧ SInv st d' (l.take j) ∧ st.many = s.each := by
       rcases hways with ⟨g0, g1, g2, g3, g4, _⟩ | ⟨g0, _⟩ | ⟨g0, _⟩
       ·exact ⟨g1, by simpa using g2, g4⟩
       ·cases g0
       ·cases g0
      clear hways hao
      have hwd : d'.works < 9223372036853000000 := by have h2 := hws.2; omega
      by_cases hlt : j < k
      ·have i1 : (j : Int) < (k : Int) := by omega
       have hBw : BytessAt wr A k c ps := HB.out.keptP hR.step.kept hA hps
       obtain ⟨b, o, p, hAe, hbl, hpk, hpa, hc⟩ := hBw.at_ hlt
       subst hAe
       have hlk : l[j]? = some p.xs := by rw [← HL.out]; simp [texts, hpk]
       have ca := ref12Append_any hR.lg.dv hdw' hR.st2 hR.d1 hsi.wf p.A p.n p.c p.xs hpa.1 hpa.2 (by omega)
       have hdw5 := St.appendOk (s := st) p.xs hdw'
       have hsn := appends_snoc p.xs (l.take j) (s.empty (1 - s.half)) d (by rw [hap])
       rw [← take_snoc hlk, hap] at hsn
       simp only at hsn
       obtain ⟨R, hR2⟩ : ∃ R, st.append d' p.xs = R := ⟨_, rfl⟩
       rw [hR2] at ca hsn hdw5
       have HSN := Lib.hid hsn
       clear hsn hR2 hap hlk
       go_wp2_with fail
       refine ca.mono ?_
       rintro e w5 ⟨rfl, gp5, sp5, B5, hD5, hS5, hk5, hf5, hp5, hd5⟩
       have hR5 := hR.append hD5 hS5 hk5 hf5 hp5 hd5
       clear ca hD5 hS5 hk5 hf5 hp5 hd5 hR hBw hpa
       obtain ⟨st5, d5, n5⟩ := R
       by_cases hz : n5 = 0
       ·subst hz
        go_wp2_with fail
        go_roundw
        case rel => exact ⟨j + 1, st5, d5, gp5, sp5, B5, by rw [HLL.out]; omega, by go_num, HSN.out, hdw5, hR5⟩
        case measure => simp [intOf]; omega
       ·have hnb : (n5 != 0) = true := by simpa using hz
        have hst := appends_stop (l.drop (j + 1)) (l.take (j + 1)) (s.empty (1 - s.half)) d (by rw [HSN.out]; exact hz)
        rw [List.take_append_drop, HSN.out] at hst
        have hfin := HRP.out
        rw [← HAP.out, hst, if_pos hz] at hfin
        have HF := Lib.hid hfin
        clear hfin hst hz
        go_wp2_with fail
        go_ret
        rw [HF.out]
        exact .of hR5.lg hR5.step
      ·obtain rfl : j = k := by omega
       have htk : l.take j = l := List.take_of_length_le (by rw [HLL.out]; exact Nat.le_refl _)
       rw [htk] at hap
       obtain ⟨Q, hQ⟩ : ∃ Q, d'.flush = Q := ⟨_, rfl⟩
       have hQw : Q.1.Wf := by rw [← hQ]; exact hdw'.flushOk
       have hQk : Q.1.works ≤ d'.works + 1 := by rw [← hQ]; exact Dev.flush_works d'
       have cD := rv_flush hR.lg.dv hdw' (by omega)
       rw [hQ] at cD
       obtain ⟨q1, q2⟩ := Q
       simp only at hQw hQk
       have hfin := HRP.out
       rw [← HAP.out, hap, if_neg (by simp)] at hfin
       simp only [save_saveM, hQ] at hfin
       have c0 := hR.lg.q.cells.1
       have hfin7 := hsi.wf.fin
       have HFN := Lib.hid hfin
       clear hfin htk hQ hap
       go_wp2_with fail
       refine cD.mono ?_
       rintro e w5 ⟨rfl, gp5, hD5, hk5, hf5⟩
       replace hD5 : Rv w5 r gp5 q1 := hD5
       have hR5 := hR.devD hD5 hk5 hf5
       clear cD hD5 hk5 hf5 hR c0
       by_cases hz : q2 = 0
       ·subst hz
        have hfin := HFN.out
        simp only [ne_eq, not_true_eq_false, if_false] at hfin
        rw [HLL.out, hhf] at hfin
        obtain ⟨V, hV⟩ : ∃ V, s.saveM q1 (manB hf st.fin j) = V := ⟨_, rfl⟩
        have hvh : V.1.half = s.half := by rw [← hV]; rfl
        rw [hV] at hfin
        have csv := fun W (hk : Kept [] w5 W) => ref13save_any (hR5.lg.new hk) hQw hf st.fin j hfl (by omega) (by omega) hnw htn hfi (by omega)
        rw [hV] at csv
        have HF := Lib.hid hfin
        have HVH := Lib.hid hvh
        have k5 := hR5.lg.q.cells.2.2.2.2.2.1
        have k9 : w5.cell? ⟨zt2, 3, none⟩ = some (.int .i64 st.fin) := by
         obtain ⟨A9, c9, hz9, -, -, -⟩ := hR5.st2.head
         rw [blk_cell hz9]
         rfl
        have hzl := hR5.st2.lt zt2 hR5.st2.zin
        have hnz : zt2 ∉ y :: zm :: (gp5 ++ sp) := fun hm => by
         simp only [List.mem_cons, List.mem_append] at hm
         rcases hm with e | e | e | e
         ·exact hR5.y2 (e ▸ hR5.st2.zin)
         ·exact hR5.z2 (e ▸ hR5.st2.zin)
         ·exact hR5.d1 zt2 hR5.st2.zin e
         ·exact hR5.d3 zt2 e hR5.st2.zin
        clear hfin hV hvh HFN
        go_wp2_with fail
        refine wp_region_calm (S := (fun W => W.cell? ⟨y, 5, none⟩ = some (.int .i64 s.half) ∧ W.cell? ⟨zt2, 3, none⟩ = some (.int .i64 st.fin))) (by kernel_rfl) (show _ ∧ _ from ⟨k5, k9⟩) (fun hHeld => ?_)
        refine tk (i := 0) (v := ?_) (hy := Or.inl ⟨by rfl, ?_⟩) (hS := hHeld) (h := ?_)
        rotate_left
        ·intro w hSw
         try dsimp only at hSw
         go_simp
         all_goals with_reducible rfl
        try simp only [Act.put, List.setIfInBounds_toArray, List.set_cons_zero, List.set_cons_succ]
        refine tk (i := 1) (v := ?_) (hy := Or.inl ⟨by rfl, ?_⟩) (hS := hHeld) (h := ?_)
        rotate_left
        ·intro w hSw
         try dsimp only at hSw
         go_simp
         all_goals with_reducible rfl
        try simp only [Act.put, List.setIfInBounds_toArray, List.set_cons_zero, List.set_cons_succ]
        refine tk (i := 2) (v := ?_) (hy := Or.inl ⟨by rfl, ?_⟩) (hS := hHeld) (h := ?_)
        rotate_left
        ·intro w hSw
         try dsimp only at hSw
         go_simp
         all_goals with_reducible rfl
        try simp only [Act.put, List.setIfInBounds_toArray, List.set_cons_zero, List.set_cons_succ]
        refine tk (i := 3) (v := ?_) (hy := Or.inl ⟨by rfl, ?_⟩) (hS := hHeld) (h := ?_)
        rotate_left
        ·intro w hSw
         try dsimp only at hSw
         go_simp
         all_goals with_reducible rfl
        try simp only [Act.put, List.setIfInBounds_toArray, List.set_cons_zero, List.set_cons_succ]
        refine tk (i := 4) (v := ?_) (hy := Or.inl ⟨by rfl, ?_⟩) (hS := hHeld) (h := ?_)
        rotate_left
        ·intro w hSw
         try dsimp only at hSw
         obtain ⟨s0, s1⟩ := hSw
         go_simp
         all_goals with_reducible rfl
        try simp only [Act.put, List.setIfInBounds_toArray, List.set_cons_zero, List.set_cons_succ]
        refine tk (i := 5) (v := ?_) (hy := Or.inl ⟨by rfl, ?_⟩) (hS := hHeld) (h := ?_)
        rotate_left
        ·intro w hSw
         try dsimp only at hSw
         go_simp
         all_goals with_reducible rfl
        try simp only [Act.put, List.setIfInBounds_toArray, List.set_cons_zero, List.set_cons_succ]
        try simp only [hw6]
        refine tk (i := 6) (v := ?_) (hy := Or.inl ⟨by rfl, ?_⟩) (hS := hHeld) (h := ?_)
        rotate_left
        ·intro w hSw
         try dsimp only at hSw
         go_simp
         all_goals with_reducible rfl
        try simp only [Act.put, List.setIfInBounds_toArray, List.set_cons_zero, List.set_cons_succ]
        refine tk (i := 7) (v := ?_) (hy := Or.inl ⟨by rfl, ?_⟩) (hS := hHeld) (h := ?_)
        rotate_left
        ·intro w hSw
         try dsimp only at hSw
         go_simp
         all_goals with_reducible rfl
        try simp only [Act.put, List.setIfInBounds_toArray, List.set_cons_zero, List.set_cons_succ]
        refine tk (i := 8) (v := ?_) (hy := Or.inl ⟨by rfl, ?_⟩) (hS := hHeld) (h := ?_)
        rotate_left
        ·intro w hSw
         try dsimp only at hSw
         go_simp
         all_goals with_reducible rfl
        try simp only [Act.put, List.setIfInBounds_toArray, List.set_cons_zero, List.set_cons_succ]
        refine tk (i := 9) (v := ?_) (hy := Or.inl ⟨by rfl, ?_⟩) (hS := hHeld) (h := ?_)
        rotate_left
        ·intro w hSw
         try dsimp only at hSw
         obtain ⟨s0, s1⟩ := hSw
         go_simp
         all_goals with_reducible rfl
        try simp only [Act.put, List.setIfInBounds_toArray, List.set_cons_zero, List.set_cons_succ]
        refine tk (i := 10) (v := ?_) (hy := Or.inl ⟨by rfl, ?_⟩) (hS := hHeld) (h := ?_)
        rotate_left
        ·intro w hSw
         try dsimp only at hSw
         go_simp
         all_goals with_reducible rfl
        try simp only [Act.put, List.setIfInBounds_toArray, List.set_cons_zero, List.set_cons_succ]
        refine tk (i := 11) (v := ?_) (hy := Or.inl ⟨by rfl, ?_⟩) (hS := hHeld) (h := ?_)
        rotate_left
        ·intro w hSw
         try dsimp only at hSw
         go_simp
         all_goals with_reducible rfl
        try simp only [Act.put, List.setIfInBounds_toArray, List.set_cons_zero, List.set_cons_succ]
        refine wpAnyH_ready (rs := [12]) (by kernel_rfl) (by simp) ?_
        refine AllReadyH.cons (by simp only [List.getElem?_toArray, List.getElem?_cons_succ, List.getElem?_cons_zero]; rfl) (fun K hK => ?_) AllReadyH.nil
        go_simp
        refine (csv _ (Kept.drew [] w5)).mono ?_
        rintro e w7 ⟨rfl, gp7, sp7, B7, hP7, hS7⟩
        have j5 := hP7.q.cells.2.2.2.2.2.1
        rw [HVH.out] at j5
        have j9 := (hS7.kept.cell (p := ⟨zt2, 3, none⟩) hzl hnz).trans k9
        go_wp2_with fail
        refine hK.out _ _ ?_ (fun hHeld2 => ?_)
        ·exact ⟨j5, j9⟩
        clear hK K hHeld
        have hHeld := hHeld2
        clear hHeld2
        try simp only [Act.put, List.setIfInBounds_toArray, List.set_cons_zero, List.set_cons_succ]
        refine tk (i := 13) (v := ?_) (hy := Or.inl ⟨by rfl, ?_⟩) (hS := hHeld) (h := ?_)
        rotate_left
        ·intro w hSw
         try dsimp only at hSw
         go_simp
         all_goals with_reducible rfl
        try simp only [Act.put, List.setIfInBounds_toArray, List.set_cons_zero, List.set_cons_succ]
        refine wpAnyH_calm (by kernel_rfl) ?_ _
        clear hHeld csv k5 k9 j5 j9
        have hk7 := hS7.kept
        have hT7 := (hR5.st2.kept (Kept.drew [] w5) (by simp)).kept hk7 (fun i hi hm => by
         simp only [List.mem_cons, List.mem_append] at hm
         rcases hm with rfl | rfl | hm | hm
         ·exact hR5.y2 hi
         ·exact hR5.z2 hi
         ·exact hR5.d1 i hi hm
         ·exact hR5.d3 i hm hi)
        have hs7 := (hR5.step.trans (.new (Kept.drew [] w5))).trans hS7
        obtain ⟨V1, V2, V3⟩ := V
        simp only at hP7 HF HVH
        by_cases hz : V3 = 0
        ·subst hz
         have hfin := HF.out
         simp only [not_true_eq_false, if_false] at hfin
         have HF2 := Lib.hid hfin
         obtain ⟨-, -, d2, -, -, d5, d6, d7, -, df⟩ := hP7.q.cells
         rw [HVH.out] at d5
         clear hfin HF
         go_wp2_with fail
         go_ret
         have old2 : ∀ i ∈ sp2', i < w5.drew.heap.size := fun i hi => hR5.st2.lt i hi
         obtain ⟨g1, g2⟩ := rq_out (hf := hf) (n := j) hP7 hT7 hR5.y2 hR5.z2 (fun i hi hm => by
          rcases hS7.g i hm with e | e
          ·exact hR5.d1 i hi e
          ·have := old2 i hi; omega)
         rw [HF2.out]
         exact .of g1 ⟨hs7.kept.trans' g2 (fun i hi => .inl (by simp at hi; simp [hi])), hs7.g, fun i hi => .inr (hR5.new i hi)⟩
        ·have hnb : (V3 != 0) = true := by simpa using hz
         have hfin := HF.out
         rw [if_pos hz] at hfin
         have HF2 := Lib.hid hfin
         clear hfin HF hz
         go_wp2_with fail
         go_ret
         rw [HF2.out]
         exact .of hP7 hs7
       ·have hnb : (q2 != 0) = true := by simpa using hz
        have hfin := HFN.out
        simp only [ne_eq, hz, not_false_eq_true, if_true] at hfin
        have HF := Lib.hid hfin
        clear hfin HFN hz
        go_wp2_with fail
        go_ret
        rw [HF.out]
        exact .of hR5.lg hR5.step
end Go.Proofs.YtbnflbkaogpnbaaGreat
