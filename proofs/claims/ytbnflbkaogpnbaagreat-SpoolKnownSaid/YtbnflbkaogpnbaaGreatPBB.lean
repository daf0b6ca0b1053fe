/- Texts in one: I1 KB. -/
import Derived.Test.YtbnflbkaogpnbaaGreatPBA
namespace Go.Proofs.YtbnflbkaogpnbaaGreat
set_option linter.unusedVariables false
open Go.RowKit
theorem appends_snoc (b : List UInt8) : ∀ (l : List (List UInt8)) (s : St) (d : Dev), (s.appends d l).2.2 = 0 → s.appends d (l ++ [b]) = (s.appends d l).1.append (s.appends d l).2.1 b := by
 intro l
 induction l with
 | nil =>
  intro s d _
  show (if _ then _ else _) = _
  by_cases h : (s.append d b).2.2 = 0
  ·rw [if_pos h]
   show ((s.append d b).1, (s.append d b).2.1, (0 : Int)) = s.append d b
   rw [← h]
  ·rw [if_neg h]; rfl
 | cons c l ih =>
  intro s d h
  rw [List.cons_append]
  rw [St.appends] at h ⊢
  by_cases hc : (s.append d c).2.2 = 0
  ·rw [if_pos hc] at h ⊢
   rw [ih _ _ h, St.appends, if_pos hc]
  ·rw [if_neg hc] at h
   exact absurd h hc
theorem appends_stop (m : List (List UInt8)) : ∀ (l : List (List UInt8)) (s : St) (d : Dev), (s.appends d l).2.2 ≠ 0 → s.appends d (l ++ m) = s.appends d l := by
 intro l
 induction l with
 | nil => intro s d h; exact absurd rfl h
 | cons c l ih =>
  intro s d h
  rw [List.cons_append]
  rw [St.appends] at h ⊢
  by_cases hc : (s.append d c).2.2 = 0
  ·rw [if_pos hc] at h ⊢
   rw [ih _ _ h, St.appends, if_pos hc]
  ·rw [if_neg hc]
   rw [St.appends, if_neg hc]
theorem BytessAt.keptP {w w' : World} {A : Option Addr} {n c : Nat} {l : List Part} {F : List Nat} (h : BytessAt w A n c l) (hk : Kept F w w') (hA : ∀ p, A = some p → 0 < n → p.block ∉ F) (hF : ∀ q ∈ l, ∀ p, q.A = some p → 0 < q.n → p.block ∉ F) : BytessAt w' A n c l :=
 ⟨h.len, h.le, h.max, fun q hq => ⟨(h.all q hq).1.keptP hk (fun p e hn => hF q hq p e hn), (h.all q hq).2⟩, fun hn => by
  obtain ⟨b, o, rfl, hb, hc⟩ := h.cells hn
  exact ⟨b, o, rfl, Nat.lt_of_lt_of_le hb hk.size, fun i p hi => (hk.cell (p := ⟨b, o + i, none⟩) hb (hA ⟨b, o, none⟩ rfl hn)).trans (hc i p hi)⟩⟩
/-- A log that is replaced: its other strip beside it. -/
structure RpAt (w0 wr : World) (y zs zt zt2 a : Nat) (fp0 slp stp fp stp2 : List Nat) (s : Sp) (st : St) (d : Dev) : Prop where
 sp : SpP wr y zs zt a fp slp stp s d
 st2 : StAt wr zt2 a stp2 st
 y2 : y ∉ stp2
 d1 : ∀ j ∈ stp2, j ∉ fp
 d2 : ∀ j ∈ slp, j ∉ stp2
 d3 : ∀ j ∈ stp, j ∉ stp2
 step : SpS w0 wr y fp0 slp stp fp slp stp
 new : ∀ j ∈ stp2, w0.heap.size ≤ j
theorem RpAt.append {w0 wr w2 : World} {y zs zt zt2 a : Nat} {fp0 slp stp fp stp2 fp' stp' : List Nat} {s : Sp} {st st' : St} {d d' : Dev} (h : RpAt w0 wr y zs zt zt2 a fp0 slp stp fp stp2 s st d) (hD : Dv w2 a fp' d') (hS : StAt w2 zt2 a stp' st') (hk : Kept (fp ++ stp2) wr w2) (hf : ∀ j ∈ fp', j ∈ fp ∨ wr.heap.size ≤ j) (hp : ∀ j ∈ stp', j ∈ stp2 ∨ wr.heap.size ≤ j) (hd : ∀ j ∈ stp', j ∉ fp') :
  RpAt w0 w2 y zs zt zt2 a fp0 slp stp fp' stp' s st' d' := by
 have hz := h.step.kept.size
 have fresh : ∀ {j}, j < wr.heap.size → j ∉ fp → j ∉ fp' := fun hj hf' hm => by
  rcases hf _ hm with e | e
  ·exact hf' e
  ·omega
 have fresh2 : ∀ {j}, j < wr.heap.size → j ∉ stp2 → j ∉ stp' := fun hj hf' hm => by
  rcases hp _ hm with e | e
  ·exact hf' e
  ·omega
 have na : ∀ {j : Nat}, j ∉ fp → j ∉ stp2 → j ∉ fp ++ stp2 := fun h1 h2 hm => by
  rcases List.mem_append.mp hm with e | e
  ·exact h1 e
  ·exact h2 e
 refine ⟨⟨(hk.block y h.sp.yl (na h.sp.y1 h.y2)).trans h.sp.head, hD, h.sp.sl.kept hk (fun j hj => na (h.sp.d1 j hj) (h.d2 j hj)), h.sp.st.kept hk (fun j hj => na (h.sp.d2 j hj) (h.d3 j hj)), fresh h.sp.yl h.sp.y1, h.sp.y2, h.sp.y3, fun j hj => fresh (h.sp.sl.lt j hj) (h.sp.d1 j hj), fun j hj => fresh (h.sp.st.lt j hj) (h.sp.d2 j hj), h.sp.d3⟩,
  hS, fresh2 h.sp.yl h.y2, hd, fun j hj => fresh2 (h.sp.sl.lt j hj) (h.d2 j hj), fun j hj => fresh2 (h.sp.st.lt j hj) (h.d3 j hj), ⟨h.step.kept.trans' hk (fun i hi => ?_), fun j hj => ?_, fun j hj => .inl hj, fun j hj => .inl hj⟩, fun j hj => ?_⟩
 ·rcases List.mem_append.mp hi with e | e
  ·rcases h.step.f i e with g | g
   ·exact .inl (by simp [g])
   ·exact .inr g
  ·exact .inr (h.new i e)
 ·rcases hf j hj with e | e
  ·exact h.step.f j e
  ·exact .inr (by omega)
 ·rcases hp j hj with e | e
  ·exact h.new j e
  ·omega
/-- Replace's first loop: the size. -/
def RzRel (w1 : World) (l : List (List UInt8)) (v6 i : Value) (wr : World) : Prop := ∃ k : Nat, k ≤ l.length ∧ i = .int .i64 k ∧ v6 = .int .i64 (allSize (l.take k)) ∧ wr = w1
/-- Replace's second loop: the records so far. -/
def RpRel (w0 : World) (y zs zt zt2 a : Nat) (fp0 slp stp : List Nat) (s : Sp) (d : Dev) (l : List (List UInt8)) (i : Value) (wr : World) : Prop :=
 ∃ (k : Nat) (st : St) (d' : Dev) (fp stp2 : List Nat), k ≤ l.length ∧ i = .int .i64 k ∧ (s.empty (1 - s.half)).appends d (l.take k) = (st, d', 0) ∧ RpAt w0 wr y zs zt zt2 a fp0 slp stp fp stp2 s st d'
theorem take_snoc {α : Type} {l : List α} {k : Nat} {b : α} (h : l[k]? = some b) : l.take (k + 1) = l.take k ++ [b] := by
 rw [List.take_add_one, h]; rfl
theorem allSize_append (l m : List (List UInt8)) : allSize (l ++ m) = allSize l + allSize m := by simp [allSize]
theorem allSize_take (l : List (List UInt8)) (k : Nat) : allSize (l.take k) ≤ allSize l := by
 have h := allSize_append (l.take k) (l.drop k)
 rw [List.take_append_drop] at h
 omega
theorem rp_out {w : World} {y zs zt zt2 a : Nat} {fp slp stp stp2 : List Nat} {s : Sp} {d : Dev} {st : St} {hf n : Nat} (h : SpP w y zs zt a fp slp stp s d) (hT : StAt w zt2 a stp2 st) (g1 : y ∉ stp2) (g2 : ∀ j ∈ stp2, j ∉ fp) (g3 : ∀ j ∈ slp, j ∉ stp2) :
  SpP ((((w.setCell ⟨y, 5, none⟩ (.int .i64 hf)).setCell ⟨y, 2, none⟩ (.pointer (some ⟨zt2, 0, none⟩))).setCell ⟨y, 6, none⟩ (.int .i64 n)).setCell ⟨y, 7, none⟩ (.bool false)) y zs zt2 a fp slp stp2 { s with half := hf, st := st, many := n, added := false } d ∧
  Kept [y] w ((((w.setCell ⟨y, 5, none⟩ (.int .i64 hf)).setCell ⟨y, 2, none⟩ (.pointer (some ⟨zt2, 0, none⟩))).setCell ⟨y, 6, none⟩ (.int .i64 n)).setCell ⟨y, 7, none⟩ (.bool false)) := by
 have hk : Kept [y] w ((((w.setCell ⟨y, 5, none⟩ (.int .i64 hf)).setCell ⟨y, 2, none⟩ (.pointer (some ⟨zt2, 0, none⟩))).setCell ⟨y, 6, none⟩ (.int .i64 n)).setCell ⟨y, 7, none⟩ (.bool false)) :=
  (((Kept.setCell (by simp) _).trans (Kept.setCell (by simp) _)).trans (Kept.setCell (by simp) _)).trans (Kept.setCell (by simp) _)
 have ny : ∀ {F : List Nat}, y ∉ F → ∀ j ∈ F, j ∉ [y] := fun hF j hj hm => hF (by simp at hm; exact hm ▸ hj)
 exact ⟨⟨heap_set (heap_set (heap_set (heap_set h.head 5 _) 2 _) 6 _) 7 _, h.dv.kept hk (ny h.y1), h.sl.kept hk (ny h.y2), hT.kept hk (ny g1), h.y1, h.y2, g1, h.d1, g2, g3⟩, hk⟩
set_option maxHeartbeats 2000000 in
set_option maxRecDepth 100000 in
theorem spoolReplace_any {w : World} {y zs zt a : Nat} {fp slp stp : List Nat} {s : Sp} {d : Dev} (h : SpP w y zs zt a fp slp stp s d) (hw : s.wrong d = false) (hS0 : SInv (s.empty (1 - s.half)) d []) (hlive : d.Live) (hfa : -1 ≤ d.fail) (hti : -1 ≤ d.till) (h1 : s.half ≤ 1) (he1 : 1 ≤ s.each)
  (hnw : s.sl.newer ≤ 1) (htn : s.sl.turn < 9223372036854775000) (hfi : s.sl.first < 9223372036854775000) (hwk : d.works < 9223372036800000000)
  (A : Option Addr) (n c : Nat) (ps : List Part) (hB : BytessAt w A n c ps) (hsm : Small (texts ps)) (hn : n ≤ 1000) (hA : ∀ p, A = some p → 0 < n → p.block ∉ y :: (fp ++ slp ++ stp)) (hps : ∀ q ∈ ps, ∀ p, q.A = some p → 0 < q.n → p.block ∉ y :: (fp ++ slp ++ stp)) :
  Calls Tryz.prog 6 #[.pointer (some ⟨y, 0, none⟩), .slice A n c] w (SpPP w y zs zt a fp slp stp (s.replace d (texts ps)).1 (s.replace d (texts ps)).2.1 (s.replace d (texts ps)).2.2) := by
 obtain ⟨l, hl⟩ : ∃ l, texts ps = l := ⟨_, rfl⟩
 have hll : l.length = n := by rw [← hl]; simp [texts, hB.len]
 have hmx := h.dv.wf.many
 have hany : l.any (fun b => decide (16384 < b.length)) = false := by
  rw [List.any_eq_false]
  intro b hb
  have := hsm b (by rw [hl]; exact hb)
  simp; omega
 have hth : (s.empty (1 - s.half)).first + s.each ≤ d.secs.length := hS0.wf.there
 have hth' : s.first + (1 - s.half) * s.each + s.each ≤ d.secs.length := hth
 have hnc := hB.le; have hcm := hB.max
 unfold maxLen at hcm
 rw [hl] at hsm ⊢
 have cw := wrong_no h hw
 have hbig : ∀ k, k ≤ n → allSize (l.take k) ≤ k * 16391 := by
  intro k
  induction k with
  | zero => intro _; simp [allSize]
  | succ k ih =>
   intro hk
   obtain ⟨b, hb⟩ : ∃ b, l[k]? = some b := ⟨_, List.getElem?_eq_getElem (by omega)⟩
   rw [take_snoc hb, allSize_append]
   have := ih (by omega)
   have h2 := hsm b (List.mem_of_getElem? hb)
   simp only [allSize, List.map_cons, List.map_nil, List.sum_cons, List.sum_nil] at this ⊢
   omega
 have HB := Lib.hid hB; have HL := Lib.hid hl; have HLL := Lib.hid hll
 clear hB hl
 go_enter Tryz.func6, Tryz.ntmps6
 go_wp2_with fail
 refine cw.mono ?_
 rintro e w1 ⟨rfl, hP1, hk1⟩
 have hs1 : SpS w w1 y fp slp stp fp slp stp := .own hk1
 have hB1 : BytessAt w1 A n c ps := HB.out.keptP hs1.kept hA hps
 go_wp2_with fail
 go_loopw [6, 23] (fun v6 i wr => RzRel w1 l v6 i wr) (fun _ i _ => n - (intOf i).toNat)
 case atStart => exact ⟨0, Nat.zero_le _, rfl, by simp [allSize], rfl⟩
 case round =>
  obtain ⟨k, hk, rfl, rfl, rfl⟩ := hrel
  by_cases hlt : k < n
  ·have i1 : (k : Int) < (n : Int) := by omega
   obtain ⟨b, o, p, rfl, hbl, hpk, hpa, hc⟩ := hB1.at_ hlt
   have hlk : l[k]? = some p.xs := by rw [← HL.out]; simp [texts, hpk]
   have hpn : p.xs.length = p.n := by simpa [u8vs] using hpa.1.len
   have hp16 : p.n ≤ 16384 := by rw [← hpn]; exact hsm p.xs (List.mem_of_getElem? hlk)
   have i2 : ¬ (16384 : Int) < (p.n : Int) := by omega
   have cz := fun W => stripSize_any (p.n : Int) W
   have hsz : stripSize (p.n : Int) = (p.n : Int) + 7 := by unfold stripSize; rw [if_neg (by omega)]
   rw [hsz] at cz
   have hb1 := hbig k (by omega)
   have hsum : allSize (l.take (k + 1)) = allSize (l.take k) + (p.n + 7) := by rw [take_snoc hlk, allSize_append]; simp [allSize, hpn]
   have hww : IntKind.i64.wrap ((allSize (l.take k) : Int) + ((p.n : Int) + 7)) = ((allSize (l.take (k + 1)) : Nat) : Int) := by rw [hsum, IntKind.wrap_i64]; omega
   clear hsum hsz
   go_wp2_with fail
   refine (cz _).mono ?_
   rintro e w2 ⟨rfl, rfl⟩
   clear cz
   go_wp2_with fail
   go_roundw
   case rel => exact ⟨k + 1, by omega, by go_num, rfl, rfl⟩
   case measure => simp [intOf]; omega
  ·obtain rfl : k = n := by omega
   have htk : l.take k = l := List.take_of_length_le (by omega)
   rw [htk]
   obtain ⟨-, -, -, c3, c4, c5, -, -, -, -⟩ := hP1.cells
   have hw5 : IntKind.i64.wrap (128 * (s.each : Int)) = 128 * (s.each : Int) := by rw [IntKind.wrap_i64]; omega
   by_cases hbg : 128 * s.each < allSize l
   ·have i5 : 128 * (s.each : Int) < (allSize l : Int) := by omega
    have hrp : s.replace d l = (s, d, 101) := by
     unfold Sp.replace
     rw [if_neg (by rw [hw]; decide), if_neg (by rw [hany]; decide), if_pos hbg]
    have HRP := Lib.hid hrp
    clear hrp hbg htk hany
    go_wp2_with fail
    go_ret
    rw [HRP.out]
    exact (SpPZ.of hP1 hs1).weak
   ·have i5 : ¬ 128 * (s.each : Int) < (allSize l : Int) := by omega
    obtain ⟨AP, hAP⟩ : ∃ AP, (s.empty (1 - s.half)).appends d l = AP := ⟨_, rfl⟩
    have hrp : s.replace d l = if AP.2.2 ≠ 0 then (s, AP.2.1, AP.2.2) else if (s.save AP.2.1 (manB (1 - s.half) AP.1.fin l.length)).2.2 ≠ 0 then s.save AP.2.1 (manB (1 - s.half) AP.1.fin l.length) else ({ (s.save AP.2.1 (manB (1 - s.half) AP.1.fin l.length)).1 with half := 1 - s.half, st := AP.1, many := l.length, added := false }, (s.save AP.2.1 (manB (1 - s.half) AP.1.fin l.length)).2.1, 0) := by
     unfold Sp.replace
     rw [if_neg (by rw [hw]; decide), if_neg (by rw [hany]; decide), if_neg hbg]
     simp only [hAP]
    have HRP := Lib.hid hrp; have HAP := Lib.hid hAP
    have hw6 : IntKind.i64.wrap (1 - (s.half : Int)) = ((1 - s.half : Nat) : Int) := by rw [IntKind.wrap_i64]; omega
    obtain ⟨hf, hhf⟩ : ∃ hf, 1 - s.half = hf := ⟨_, rfl⟩
    have hfl : hf ≤ 1 := by omega
    have co := half_ok hP1.dv hP1.head hlive.dead hf hfl he1 (by rw [← hhf]; exact hth') [] (fun b hb => by simp at hb) (by simp [recs_nil]) (by simp [recs_nil])
    rw [hhf] at hw6
    replace co : Calls Tryz.prog 22 #[.pointer (some ⟨y, 0, none⟩), .int .i64 hf, .int .i64 0] wr (HfOk wr a (s.first + hf * s.each) s.each []) := co
    clear hrp hAP hbg htk hany
    go_wp2_with fail
    refine co.mono ?_
    rintro e w3 ⟨zt2, stp2, A3, n3, c3', ps3, rfl, hk3, hB3, htx3, hS3, hst3, -, -⟩
    have hP3 := hP1.new hk3
    have hs3 := hs1.trans (.new hk3)
    clear co hB3 htx3 c3 c4 c5
    go_wp2_with fail
    go_loopw [13, 14, 59] (fun v13 v14 i wr => RpRel w y zs zt zt2 a fp slp stp s d l i wr) (fun _ _ i _ => k - (intOf i).toNat)
    case atStart =>
     refine ⟨0, _, d, fp, stp2, Nat.zero_le _, rfl, rfl, hP3, ?_, ?_, ?_, ?_, ?_, hs3, ?_⟩
     ·rw [← hhf] at hS3
      exact hS3
     ·exact fun hm => by have h2 := hst3 y hm; have h3 := hP1.yl; omega
     ·exact fun j hj hm => by have h2 := hst3 j hj; have h3 := hP1.dv.lt j hm; omega
     ·exact fun j hj hm => by have h2 := hst3 j hm; have h3 := hP1.sl.lt j hj; omega
     ·exact fun j hj hm => by have h2 := hst3 j hm; have h3 := hP1.st.lt j hj; omega
     ·exact fun j hj => by have h2 := hst3 j hj; have h3 := hs1.kept.size; omega
    case round =>
     obtain ⟨j, st, d', fp', sp2', hj, rfl, hap, hR⟩ := hrel
     clear hP3 hs3 hS3 hst3 hk3
     have hao := hS0.appends_any (l.take j) hlive hfa hti (hsm.take j) (by have h2 := allSize_take l j; have h3 : (s.empty (1 - s.half)).fin = 0 := rfl; have h4 : (s.empty (1 - s.half)).many = s.each := rfl; rw [h3, h4]; omega)
     have hws := hao.works
     have hbj := hbig j (by omega)
     have hways := hao.ways
     rw [hap] at hws hways
     replace hws : d.works ≤ d'.works ∧ d'.works ≤ d.works + 2 * allSize (l.take j) := hws
     obtain ⟨hlv, hsi, hsm2⟩ : d'.Live ∧ SInv st d' (l.take j) ∧ st.many = s.each := by
      rcases hways with ⟨g0, g1, g2, g3, g4, _⟩ | ⟨g0, _⟩ | ⟨g0, _⟩
      ·exact ⟨g1, by simpa using g2, g4⟩
      ·cases g0
      ·cases g0
     clear hways hao
     have hwd : d'.works < 9223372036854000000 := by have h2 := hws.2; omega
     by_cases hlt : j < k
     ·have i1 : (j : Int) < (k : Int) := by omega
      have hBw : BytessAt wr A k c ps := HB.out.keptP hR.step.kept hA hps
      obtain ⟨b, o, p, hAe, hbl, hpk, hpa, hc⟩ := hBw.at_ hlt
      subst hAe
      have hlk : l[j]? = some p.xs := by rw [← HL.out]; simp [texts, hpk]
      have ca := append_any hR.sp.dv hR.st2 hR.d1 hsi.wf p.A p.n p.c p.xs hpa.1 hpa.2 hwd
      have hsn := appends_snoc p.xs (l.take j) (s.empty (1 - s.half)) d (by rw [hap])
      rw [← take_snoc hlk, hap] at hsn
      simp only at hsn
      obtain ⟨R, hR2⟩ : ∃ R, st.append d' p.xs = R := ⟨_, rfl⟩
      rw [hR2] at ca hsn
      have HSN := Lib.hid hsn
      clear hsn hR2 hap hlk
      go_wp2_with fail
      refine ca.mono ?_
      rintro e w5 ⟨rfl, fp5, sp5, hD5, hS5, hk5, hf5, hp5, hd5⟩
      have hR5 := hR.append hD5 hS5 hk5 hf5 hp5 hd5
      clear ca hD5 hS5 hk5 hf5 hp5 hd5 hR hBw hpa
      obtain ⟨st5, d5, n5⟩ := R
      by_cases hz : n5 = 0
      ·subst hz
       go_wp2_with fail
       go_roundw
       case rel => exact ⟨j + 1, st5, d5, fp5, sp5, by omega, by go_num, HSN.out, hR5⟩
       case measure => simp [intOf]; omega
      ·have hnb : (n5 != 0) = true := by simpa using hz
       have hst := appends_stop (l.drop (j + 1)) (l.take (j + 1)) (s.empty (1 - s.half)) d (by rw [HSN.out]; exact hz)
       rw [List.take_append_drop, HSN.out] at hst
       have hfin := HRP.out
       rw [← HAP.out, hst, if_pos hz] at hfin
       have HF := Lib.hid hfin
       clear hfin hst hz
       go_wp2_with fail
       go_ret
       rw [HF.out]
       exact (SpPZ.of hR5.sp hR5.step).weak
     ·obtain rfl : j = k := by omega
      have htk : l.take j = l := List.take_of_length_le (by rw [HLL.out]; exact Nat.le_refl _)
      rw [htk] at hap
      have hfin := HRP.out
      rw [← HAP.out, hap, if_neg (by simp)] at hfin
      simp only at hfin
      have HF := Lib.hid hfin
      clear hfin htk
      have hPd := hR.sp.new (Kept.drew [] wr)
      have hTd := hR.st2.kept (Kept.drew [] wr) (by simp)
      have hfin7 := hsi.wf.fin
      have csv := spoolSave_any hPd hf st.fin j hfl (by omega) (by omega) hnw htn hfi (by have h2 := hws.2; omega)
      rw [HLL.out, hhf] at HF
      obtain ⟨V, hV⟩ : ∃ V, s.save d' (manB hf st.fin j) = V := ⟨_, rfl⟩
      have hvh : V.1.half = s.half := by rw [← hV, Sp.save_half]
      rw [hV] at csv HF
      have HVH := Lib.hid hvh; have HHF := Lib.hid hhf
      have c5d : wr.drew.cell? ⟨y, 5, none⟩ = some (.int .i64 s.half) := hPd.cells.2.2.2.2.2.1
      clear hV hvh hhf hap hbj
      go_wp2_with fail
      refine wp_region_calm (S := (fun W => W.cell? ⟨y, 5, none⟩ = some (.int .i64 s.half))) (by kernel_rfl) c5d (fun hHeld => ?_)
      refine tk (i := 0) (v := ?_) (hy := Or.inl ⟨by rfl, ?_⟩) (hS := hHeld) (h := ?_)
      rotate_left
      ·intro w hSw
       try dsimp only at hSw
       go_simp
       all_goals with_reducible rfl
      try simp only [Act.put, List.setIfInBounds_toArray, List.set_cons_zero, List.set_cons_succ]
      refine tk (i := 1) (v := ?_) (hy := Or.inl ⟨by rfl, ?_⟩) (hS := hHeld) (h := ?_)
      rotate_left
      ·intro w hSw
       try dsimp only at hSw
       go_simp
       all_goals with_reducible rfl
      try simp only [Act.put, List.setIfInBounds_toArray, List.set_cons_zero, List.set_cons_succ]
      refine tk (i := 2) (v := ?_) (hy := Or.inl ⟨by rfl, ?_⟩) (hS := hHeld) (h := ?_)
      rotate_left
      ·intro w hSw
       try dsimp only at hSw
       go_simp
       all_goals with_reducible rfl
      try simp only [Act.put, List.setIfInBounds_toArray, List.set_cons_zero, List.set_cons_succ]
      refine tk (i := 3) (v := ?_) (hy := Or.inl ⟨by rfl, ?_⟩) (hS := hHeld) (h := ?_)
      rotate_left
      ·intro w hSw
       try dsimp only at hSw
       go_simp
       all_goals with_reducible rfl
      try simp only [Act.put, List.setIfInBounds_toArray, List.set_cons_zero, List.set_cons_succ]
      refine tk (i := 4) (v := ?_) (hy := Or.inl ⟨by rfl, ?_⟩) (hS := hHeld) (h := ?_)
      rotate_left
      ·intro w hSw
       try dsimp only at hSw
       have s0 := hSw
       go_simp
       all_goals with_reducible rfl
      try simp only [Act.put, List.setIfInBounds_toArray, List.set_cons_zero, List.set_cons_succ]
      refine tk (i := 5) (v := ?_) (hy := Or.inl ⟨by rfl, ?_⟩) (hS := hHeld) (h := ?_)
      rotate_left
      ·intro w hSw
       try dsimp only at hSw
       go_simp
       all_goals with_reducible rfl
      try simp only [Act.put, List.setIfInBounds_toArray, List.set_cons_zero, List.set_cons_succ]
      try simp only [hw6]
      refine tk (i := 6) (v := ?_) (hy := Or.inl ⟨by rfl, ?_⟩) (hS := hHeld) (h := ?_)
      rotate_left
      ·intro w hSw
       try dsimp only at hSw
       go_simp
       all_goals with_reducible rfl
      try simp only [Act.put, List.setIfInBounds_toArray, List.set_cons_zero, List.set_cons_succ]
      refine tk (i := 8) (v := ?_) (hy := Or.inl ⟨by rfl, ?_⟩) (hS := hHeld) (h := ?_)
      rotate_left
      ·intro w hSw
       try dsimp only at hSw
       go_simp
       all_goals with_reducible rfl
      try simp only [Act.put, List.setIfInBounds_toArray, List.set_cons_zero, List.set_cons_succ]
      refine tk (i := 9) (v := ?_) (hy := Or.inl ⟨by rfl, ?_⟩) (hS := hHeld) (h := ?_)
      rotate_left
      ·intro w hSw
       try dsimp only at hSw
       go_simp
       all_goals with_reducible rfl
      try simp only [Act.put, List.setIfInBounds_toArray, List.set_cons_zero, List.set_cons_succ]
      refine wpAnyH_ready (rs := [7]) (by kernel_rfl) (by simp) ?_
      refine AllReadyH.cons (by simp only [List.getElem?_toArray, List.getElem?_cons_succ, List.getElem?_cons_zero]; rfl) (fun K hK => ?_) AllReadyH.nil
      go_simp
      refine (stripEnd_any hTd).mono ?_
      rintro e w5 ⟨rfl, rfl⟩
      go_wp2_with fail
      refine hK.out _ _ ?_ (fun hHeld2 => ?_)
      ·exact c5d
      clear hK K hHeld
      have hHeld := hHeld2
      clear hHeld2
      try simp only [Act.put, List.setIfInBounds_toArray, List.set_cons_zero, List.set_cons_succ]
      refine tk (i := 10) (v := ?_) (hy := Or.inl ⟨by rfl, ?_⟩) (hS := hHeld) (h := ?_)
      rotate_left
      ·intro w hSw
       try dsimp only at hSw
       go_simp
       all_goals with_reducible rfl
      try simp only [Act.put, List.setIfInBounds_toArray, List.set_cons_zero, List.set_cons_succ]
      refine wpAnyH_ready (rs := [11]) (by kernel_rfl) (by simp) ?_
      refine AllReadyH.cons (by simp only [List.getElem?_toArray, List.getElem?_cons_succ, List.getElem?_cons_zero]; rfl) (fun K hK => ?_) AllReadyH.nil
      go_simp
      refine csv.mono ?_
      rintro e w7 ⟨rfl, fp7, slp7, stp7, hP7, hS7⟩
      obtain ⟨-, -, -, -, -, d5, -⟩ := hP7.cells
      rw [HVH.out] at d5
      go_wp2_with fail
      refine hK.out _ _ ?_ (fun hHeld2 => ?_)
      ·exact d5
      clear hK K hHeld
      have hHeld := hHeld2
      clear hHeld2
      try simp only [Act.put, List.setIfInBounds_toArray, List.set_cons_zero, List.set_cons_succ]
      refine tk (i := 12) (v := ?_) (hy := Or.inl ⟨by rfl, ?_⟩) (hS := hHeld) (h := ?_)
      rotate_left
      ·intro w hSw
       try dsimp only at hSw
       go_simp
       all_goals with_reducible rfl
      try simp only [Act.put, List.setIfInBounds_toArray, List.set_cons_zero, List.set_cons_succ]
      refine wpAnyH_calm (by kernel_rfl) ?_ _
      clear hHeld csv
      have hk7 := hS7.kept
      have hT7 := hTd.kept hk7 (fun i hi hm => by
       simp only [List.mem_cons, List.mem_append] at hm
       rcases hm with rfl | (hm | hm) | hm
       ·exact hR.y2 hi
       ·exact hR.d1 i hi hm
       ·exact hR.d2 i hm hi
       ·exact hR.d3 i hm hi)
      have hs7 := (hR.step.trans (.new (Kept.drew [] wr))).trans hS7
      obtain ⟨V1, V2, V3⟩ := V
      simp only at hP7 HF
      by_cases hz : V3 = 0
      ·subst hz
       have hfin := HF.out
       rw [if_neg (by simp)] at hfin
       have HF2 := Lib.hid hfin
       obtain ⟨-, -, d2, -, -, -, d6, d7, -, df⟩ := hP7.cells
       clear hfin HF
       go_wp2_with fail
       go_ret
       have hzr := hR.step.kept.size
       have old2 : ∀ j ∈ sp2', j < wr.drew.heap.size := fun j hj => hR.st2.lt j hj
       obtain ⟨q1, q2⟩ := rp_out (hf := hf) (n := j) hP7 hT7 hR.y2 (fun i hi hm => by
        rcases hS7.f i hm with e | e
        ·exact hR.d1 i hi e
        ·have := old2 i hi; omega) (fun i hi hm => by
        rcases hS7.l i hi with e | e
        ·exact hR.d2 i e hm
        ·have := old2 i hm; omega)
       rw [HF2.out]
       refine SpPP.of q1 ⟨hs7.kept.trans' q2 (fun i hi => .inl (by simp at hi; simp [hi])), hs7.f, hs7.l, fun i hi => .inr (hR.new i hi)⟩
      ·have hnb : (V3 != 0) = true := by simpa using hz
       have hfin := HF.out
       rw [if_pos hz] at hfin
       have HF2 := Lib.hid hfin
       clear hfin HF hz
       go_wp2_with fail
       go_ret
       rw [HF2.out]
       exact (SpPZ.of hP7 hs7).weak
end Go.Proofs.YtbnflbkaogpnbaaGreat
namespace Go.Proofs.YtbnflbkaogpnbaaGreat
set_option linter.unusedVariables false
open Go.RowKit
/-- The first of them are not too large. -/
def RsRel (w1 : World) (l : List (List UInt8)) (v6 i : Value) (wr : World) : Prop := ∃ k : Nat, k ≤ l.length ∧ Small (l.take k) ∧ i = .int .i64 k ∧ v6 = .int .i64 (allSize (l.take k)) ∧ wr = w1
theorem allSize_small : ∀ (l : List (List UInt8)), Small l → allSize l ≤ l.length * 16391 := by
 intro l
 induction l with
 | nil => intro _; simp [allSize]
 | cons b l ih =>
  intro h
  have h1 := ih (fun c hc => h c (List.mem_cons_of_mem _ hc))
  have h2 := h b List.mem_cons_self
  simp only [allSize, List.map_cons, List.sum_cons, List.length_cons] at h1 ⊢
  omega
theorem SInv.empty {s : Sp} {d : Dev} {hf : Nat} (hh : hf ≤ 1) (he : 1 ≤ s.each) (hg : s.first + 2 * s.each ≤ d.secs.length) : SInv (s.empty hf) d [] := by
 have hr := half_room hh hg
 exact ⟨⟨he, hr, Nat.zero_le _, rfl⟩, by simp [Sp.empty], fun b hb => by simp at hb, by simp [Sp.empty, recs_nil]⟩
set_option maxHeartbeats 2000000 in
set_option maxRecDepth 100000 in
theorem spoolReplace_all {w : World} {y zs zt a : Nat} {fp slp stp : List Nat} {s : Sp} {d : Dev} (h : SpP w y zs zt a fp slp stp s d) (h1 : s.half ≤ 1) (he1 : 1 ≤ s.each) (hg : s.first + 2 * s.each ≤ d.secs.length)
  (hnw : s.sl.newer ≤ 1) (htn : s.sl.turn < 9223372036854775000) (hfi : s.sl.first < 9223372036854775000) (hwk : d.works < 9223372036800000000)
  (A : Option Addr) (n c : Nat) (ps : List Part) (hB : BytessAt w A n c ps) (hn : n ≤ 1000) (hA : ∀ p, A = some p → 0 < n → p.block ∉ y :: (fp ++ slp ++ stp)) (hps : ∀ q ∈ ps, ∀ p, q.A = some p → 0 < q.n → p.block ∉ y :: (fp ++ slp ++ stp)) :
  Calls Tryz.prog 6 #[.pointer (some ⟨y, 0, none⟩), .slice A n c] w (SpPP w y zs zt a fp slp stp (s.replace d (texts ps)).1 (s.replace d (texts ps)).2.1 (s.replace d (texts ps)).2.2) := by
 cases hw : s.wrong d with
 | true =>
  have e1 : s.replace d (texts ps) = (s.touch d, d, 100) := by unfold Sp.replace; rw [if_pos hw]
  have cw := wrong_yes h hw
  rw [e1]
  clear e1 hps hA hB
  go_enter Tryz.func6, Tryz.ntmps6
  go_wp2_with fail
  refine cw.mono ?_
  rintro e w1 ⟨rfl, hP1, hk1⟩
  go_wp2_with fail
  go_ret
  exact (SpPZ.of hP1 (.own hk1)).weak
 | false =>
  by_cases hsm : Small (texts ps)
  ·have hwf := h.dv.wf
   have hdd : d.dead = false := by
    unfold Sp.wrong at hw
    cases hx : d.dead with
    | false => rfl
    | true => rw [hx] at hw; simp at hw
   exact spoolReplace_any h hw (SInv.empty (by omega) he1 hg) ⟨hdd, hwf.size⟩ hwf.fail0 hwf.till0 h1 he1 hnw htn hfi hwk A n c ps hB hsm hn hA hps
  ·obtain ⟨l, hl⟩ : ∃ l, texts ps = l := ⟨_, rfl⟩
   have hll : l.length = n := by rw [← hl]; simp [texts, hB.len]
   rw [hl] at hsm ⊢
   have hany : l.any (fun b => decide (16384 < b.length)) = true := by
    rw [List.any_eq_true]
    unfold Small at hsm
    simp only [Classical.not_forall, Nat.not_le] at hsm
    obtain ⟨b, hb, hb2⟩ := hsm
    exact ⟨b, hb, by simpa using hb2⟩
   have e1 : s.replace d l = (s, d, 5) := by unfold Sp.replace; rw [if_neg (by rw [hw]; decide), if_pos hany]
   have hnc := hB.le; have hcm := hB.max
   unfold maxLen at hcm
   have cw := wrong_no h hw
   have HB := Lib.hid hB; have HL := Lib.hid hl; have HLL := Lib.hid hll; have HE := Lib.hid e1
   clear hB hl e1 hany hll
   go_enter Tryz.func6, Tryz.ntmps6
   go_wp2_with fail
   refine cw.mono ?_
   rintro e w1 ⟨rfl, hP1, hk1⟩
   have hs1 : SpS w w1 y fp slp stp fp slp stp := .own hk1
   have hB1 : BytessAt w1 A n c ps := HB.out.keptP hs1.kept hA hps
   go_wp2_with fail
   go_loopw [6, 23] (fun v6 i wr => RsRel w1 l v6 i wr) (fun _ i _ => n - (intOf i).toNat)
   case atStart => exact ⟨0, Nat.zero_le _, fun b hb => by simp at hb, rfl, by simp [allSize], rfl⟩
   case round =>
    obtain ⟨k, hk, hks, rfl, rfl, rfl⟩ := hrel
    rw [HLL.out] at hk
    by_cases hlt : k < n
    ·have i1 : (k : Int) < (n : Int) := by omega
     obtain ⟨b, o, p, rfl, hbl, hpk, hpa, hc⟩ := hB1.at_ hlt
     have hlk : l[k]? = some p.xs := by rw [← HL.out]; simp [texts, hpk]
     have hpn : p.xs.length = p.n := by simpa [u8vs] using hpa.1.len
     by_cases hbig : 16384 < p.n
     ·have i2 : (16384 : Int) < (p.n : Int) := by omega
      clear hpk hlk hpn hks
      go_wp2_with fail
      go_ret
      rw [HE.out]
      exact (SpPZ.of hP1 hs1).weak
     ·have i2 : ¬ (16384 : Int) < (p.n : Int) := by omega
      have cz := fun W => stripSize_any (p.n : Int) W
      have hsz : stripSize (p.n : Int) = (p.n : Int) + 7 := by unfold stripSize; rw [if_neg (by omega)]
      rw [hsz] at cz
      have hb1 := allSize_small _ hks
      have hb2 : (l.take k).length ≤ 1000 := by rw [List.length_take]; omega
      have hsum : allSize (l.take (k + 1)) = allSize (l.take k) + (p.n + 7) := by rw [take_snoc hlk, allSize_append]; simp [allSize, hpn]
      have hks2 : Small (l.take (k + 1)) := by
       rw [take_snoc hlk]
       intro x hx
       rcases List.mem_append.mp hx with e | e
       ·exact hks x e
       ·simp only [List.mem_singleton] at e
        rw [e, hpn]
        omega
      have hww : IntKind.i64.wrap ((allSize (l.take k) : Int) + ((p.n : Int) + 7)) = ((allSize (l.take (k + 1)) : Nat) : Int) := by rw [hsum, IntKind.wrap_i64]; omega
      clear hsum hsz hks hpk hlk hpn hb1 hb2
      go_wp2_with fail
      refine (cz _).mono ?_
      rintro e w2 ⟨rfl, rfl⟩
      clear cz
      go_wp2_with fail
      go_roundw
      case rel => exact ⟨k + 1, by rw [HLL.out]; omega, hks2, by go_num, rfl, rfl⟩
      case measure => simp [intOf]; omega
    ·obtain rfl : k = n := by omega
     exact absurd (by rw [List.take_of_length_le (by rw [HLL.out]; exact Nat.le_refl _)] at hks; exact hks) hsm
end Go.Proofs.YtbnflbkaogpnbaaGreat
