/- Texts in one: I2 I4 I3 I5. -/
import Derived.Test.YtbnflbkaogpnbaaGreatPBB
import Derived.Test.YtbnflbkaogpnbaaGreatPAQ
import Derived.Test.YtbnflbkaogpnbaaGreatPAV
import Derived.Deep.AppendLies
import Derived.Test.YtbnflbkaogpnbaaGreatPBH
namespace Go.Proofs.YtbnflbkaogpnbaaGreat
set_option linter.unusedVariables false
open Go.RowKit
theorem SpDisk.inv {F each half : Nat} {d : Dev} {sl : Sl} {l : List (List UInt8)} (h : SpDisk F each d sl half l) (hl : d.Live) {q : List Blk} (hq : d.Sure q) (hqs : ∀ b ∈ q, b.length = 128) (hs : ∀ i : Nat, i = sl.first ∨ i = sl.first + 1 → q[i]? = d.secs[i]?) (hr : (q.drop (F + half * each)).flatten.take (recs l).length = recs l) : SpInv (Sp.opened F each half sl l) d q l l := by
 have hth := half_room h.man.le h.there
 refine ⟨hl, hq, hqs, rfl, h, hs, ⟨⟨h.one, hth, h.fits, ?_⟩, ?_, h.small, h.rows⟩, rfl, rfl, rfl, ⟨[], by simp⟩, hr, fun _ => rfl⟩
 ·show ((recs l).drop ((recs l).length - (recs l).length % 128)).length = (recs l).length % 128
  rw [List.length_drop]
  omega
 ·show (recs l).drop _ = ((d.bytesAt (F + half * each)).take (recs l).length).drop _
  rw [h.rows]
  rfl
theorem SpDisk.invNow {F each half : Nat} {d : Dev} {sl : Sl} {l : List (List UInt8)} (h : SpDisk F each d sl half l) (hl : d.Live) (hq : d.Sure d.secs) : SpInv (Sp.opened F each half sl l) d d.secs l l :=
 h.inv hl hq h.size (fun _ _ => rfl) h.rows
theorem SpDisk.new {n f each : Nat} (h1 : 1 ≤ each) (h2 : f + 2 + 2 * each ≤ n) : SpDisk (f + 2) each (Dev.new n) ⟨f, 0, 0, []⟩ 0 [] :=
 ⟨fun b hb => by simp [Dev.new] at hb; rw [hb.2]; rfl, SlOn.new (by omega), rfl, h1, by simpa [Dev.new] using h2, ⟨by omega, fun _ => ⟨rfl, rfl⟩, fun h => absurd h (Nat.lt_irrefl 0)⟩, fun b hb => by simp at hb, by simp [recs_nil], by simp [recs_nil]⟩
theorem SpInv.wrongNo {s : Sp} {d : Dev} {q : List Blk} {now sure : List (List UInt8)} (h : SpInv s d q now sure) : s.wrong d = false := by unfold Sp.wrong; rw [h.ok, h.live.dead]; rfl
theorem SpInv.touchNo {s : Sp} {d : Dev} {q : List Blk} {now sure : List (List UInt8)} (h : SpInv s d q now sure) : s.touch d = s := touch_no h.wrongNo
section
variable {w : World} {y a : Nat} {F : List Nat} {s : Sp} {d : Dev}
theorem SpAt.dv (h : SpAt w y a F s d) : ∃ fp, Dv w a fp d ∧ ∀ j ∈ fp, j ∈ F := by
 obtain ⟨zs, zt, fp, slp, stp, h1, h2⟩ := h.parts
 exact ⟨fp, h1.dv, fun j hj => h2 j (.inr (.inl hj))⟩
theorem sp_append {q : List Blk} {now sure : List (List UInt8)} (h : SpAt w y a F s d) (hi : SpInv s d q now sure) (hmany : s.many < 1000000000) (A : Option Addr) (n c : Nat) (b : List UInt8) (hb : SlAt w A n c (u8vs b)) (hA : A = none → c = 0) (hAy : ∀ p, A = some p → 0 < n → p.block ∉ F)
  (hwk : d.works < 9223372036854000000) : Calls Tryz.prog 4 #[.pointer (some ⟨y, 0, none⟩), .slice A n c] w (SpPost w y a F (s.append d b).1 (s.append d b).2.1 (s.append d b).2.2) := by
 obtain ⟨zs0, zt0, fp0, slp0, stp0, h1, h2⟩ := h.parts
 exact h.deed (fun zs zt fp slp stp hP hF => (spoolAppend_any hP hi.st.wf hmany A n c b hb hA (fun p e hn => fun hm => hAy p e hn (by rw [hm]; exact h2 y (.inl rfl))) hwk).mono (fun e w' g => g.weak))
theorem SlOn.newer {s : Sl} {d : Dev} (h : SlOn s d) : s.newer ≤ 1 := by
 obtain ⟨_, _, _, _, h9⟩ := h.pair
 exact h9.newer
theorem sp_flush {q : List Blk} {now sure : List (List UInt8)} (h : SpAt w y a F s d) (hi : SpInv s d q now sure) (hmany : s.many < 1000000000) (htn : s.sl.turn < 9223372036854775000) (hwk : d.works < 9223372036853000000) :
  Calls Tryz.prog 5 #[.pointer (some ⟨y, 0, none⟩)] w (SpPost w y a F (s.flush d).1 (s.flush d).2.1 (s.flush d).2.2) := by
 obtain ⟨fpd, hDv, _⟩ := h.dv
 have hmx := hDv.wf.many
 have h3 := hi.st.wf.fin; have h4 := hi.disk.there; have h5 := hi.stm; have h6 := hi.disk.slOn.there
 exact h.deed (fun zs zt fp slp stp hP hF => (spoolFlush_any hP hi.disk.man.le (by omega) (by omega) hi.disk.slOn.newer htn (by omega) hwk).mono (fun e w' g => g.weak))
theorem sp_replace {q : List Blk} {now sure : List (List UInt8)} (h : SpAt w y a F s d) (hi : SpInv s d q now sure) (hfa : -1 ≤ d.fail) (hti : -1 ≤ d.till) (htn : s.sl.turn < 9223372036854775000) (hwk : d.works < 9223372036800000000)
  (A : Option Addr) (n c : Nat) (ps : List Part) (hB : BytessAt w A n c ps) (hsm : Small (texts ps)) (hn : n ≤ 1000) (hA : ∀ p, A = some p → 0 < n → p.block ∉ F) (hps : ∀ q ∈ ps, ∀ p, q.A = some p → 0 < q.n → p.block ∉ F) :
  Calls Tryz.prog 6 #[.pointer (some ⟨y, 0, none⟩), .slice A n c] w (SpPost w y a F (s.replace d (texts ps)).1 (s.replace d (texts ps)).2.1 (s.replace d (texts ps)).2.2) := by
 obtain ⟨zs, zt, fp, slp, stp, hP, h2⟩ := h.parts
 have hmx := hP.dv.wf.many
 have h4 := hi.disk.there; have h6 := hi.disk.slOn.there
 have sub : ∀ j, j ∈ y :: (fp ++ slp ++ stp) → j ∈ F := fun j hj => h2 j (by simpa [or_assoc] using hj)
 refine (spoolReplace_any hP hi.wrongNo hi.disk.empty hi.live hfa hti hi.disk.man.le hi.disk.one hi.disk.slOn.newer htn (by omega) hwk A n c ps hB hsm hn (fun p e hn hm => hA p e hn (sub _ hm)) (fun q hq p e hn hm => hps q hq p e hn (sub _ hm))).mono ?_
 intro e w' g
 obtain ⟨rfl, zt', fp', slp', stp', g1, g2⟩ := g.parts
 refine ⟨rfl, _, g1.at_, g2.kept.mono (fun i hi => .inl (sub i hi)), fun j hj => ?_⟩
 simp only [List.mem_cons, List.mem_append] at hj
 rcases hj with rfl | (hj | hj) | hj
 ·exact .inl (h2 _ (.inl rfl))
 ·rcases g2.f j hj with e | e
  ·exact .inl (h2 j (.inr (.inl e)))
  ·exact .inr e
 ·rcases g2.l j hj with e | e
  ·exact .inl (h2 j (.inr (.inr (.inl e))))
  ·exact .inr e
 ·rcases g2.t j hj with e | e
  ·exact .inl (h2 j (.inr (.inr (.inr e))))
  ·exact .inr e
theorem SpAt.tell (h : SpAt w y a F s d) {f : FuncId} {args : Array Value} {n : Int} (hc : ∀ zs zt fp slp stp, SpP w y zs zt a fp slp stp s d → Calls Tryz.prog f args w (TlPost w y zs zt a fp slp stp s d (.int .i64 n))) : Calls Tryz.prog f args w (SpPost w y a F (s.touch d) d n) :=
 h.deed (fun zs zt fp slp stp hP _ => (hc zs zt fp slp stp hP).mono (by
  rintro e w' ⟨rfl, g1, g2⟩
  exact .of g1 (.own g2)))
theorem sp_len {q : List Blk} {now sure : List (List UInt8)} (h : SpAt w y a F s d) (hi : SpInv s d q now sure) : Calls Tryz.prog 7 #[.pointer (some ⟨y, 0, none⟩)] w (SpPost w y a F s d s.many) := by
 have := h.tell (fun zs zt fp slp stp hP => spoolLen_any hP hi.wrongNo)
 rw [hi.touchNo] at this
 exact this
theorem sp_half {q : List Blk} {now sure : List (List UInt8)} (h : SpAt w y a F s d) (hi : SpInv s d q now sure) : Calls Tryz.prog 9 #[.pointer (some ⟨y, 0, none⟩)] w (SpPost w y a F s d s.half) := by
 have := h.tell (fun zs zt fp slp stp hP => spoolHalf_any hP hi.wrongNo)
 rw [hi.touchNo] at this
 exact this
theorem sp_left {q : List Blk} {now sure : List (List UInt8)} (h : SpAt w y a F s d) (hi : SpInv s d q now sure) : Calls Tryz.prog 8 #[.pointer (some ⟨y, 0, none⟩)] w (SpPost w y a F s d (128 * s.st.many - s.st.fin)) := by
 obtain ⟨fpd, hDv, _⟩ := h.dv
 have hmx := hDv.wf.many
 have := h.tell (fun zs zt fp slp stp hP => spoolLeft_any hP hi.wrongNo (by have h1 := hi.st.wf.there; omega) hi.st.wf.fin)
 rw [hi.touchNo] at this
 exact this
end
/-- The same, all of it new since w0. -/
structure SpF (w0 w : World) (y a : Nat) (F : List Nat) (s : Sp) (d : Dev) : Prop where
 at_ : SpAt w y a F s d
 low : ∀ j ∈ F, w0.heap.size ≤ j
 kept : Kept [] w0 w
theorem SpF.next {w0 w w' : World} {y a : Nat} {F : List Nat} {s : Sp} {d : Dev} (h : SpF w0 w y a F s d) (hk : Kept [] w w') : SpF w0 w' y a F s d := ⟨h.at_.new hk, h.low, h.kept.trans hk⟩
theorem SpF.step {w0 w w' : World} {y a : Nat} {F F' : List Nat} {s s' : Sp} {d d' : Dev} (h : SpF w0 w y a F s d) (hT : SpAt w' y a F' s' d') (hs : Step F F' w w') : SpF w0 w' y a F' s' d' :=
 ⟨hT, fun j hj => by
  rcases hs.new j hj with e | e
  ·exact h.low j e
  ·exact Nat.le_trans h.kept.size e, h.kept.trans' hs.kept (fun i hi => .inr (h.low i hi))⟩
/-- A new device's log. -/
def NewSp (w0 : World) (a n f each : Nat) (e : Ending) (w' : World) : Prop :=
 ∃ y F A c, e = .returned (.tuple #[.pointer (some ⟨y, 0, none⟩), .slice A 0 c, .int .i64 0]) ∧ SpF w0 w' y a F (Sp.opened (f + 2) each 0 ⟨f, 0, 0, []⟩ []) (Dev.new n)
theorem sp_new {w0 w : World} {a : Nat} {fp : List Nat} {n f sectors each : Nat} (hD : Dv w a fp (Dev.new n)) (hk : Kept [] w0 w) (hN : ∀ j ∈ fp, w0.heap.size ≤ j) (h4 : 4 ≤ sectors) (he : (sectors - 2) / 2 = each) (hf : f + sectors ≤ n) :
  Calls Tryz.prog 13 #[.pointer (some ⟨a, 0, none⟩), .int .i64 f, .int .i64 sectors] w (NewSp w0 a n f each) := by
 refine (spool_ok hD rfl (SpDisk.new (n := n) (f := f) (each := each) (by omega) (by omega)) rfl h4 he (by simpa [Dev.new] using hf)).mono ?_
 rintro e w' ⟨y, zs, zt, slp, stp, A, n', c, ps, rfl, hk', hP, hB, htx, hlow, _⟩
 have h0 : n' = 0 := by
  rw [← hB.len]
  have := congrArg List.length htx
  simpa [texts] using this
 subst h0
 refine ⟨y, _, A, c, rfl, hP.at_, fun j hj => ?_, hk.trans hk'⟩
 have := hk.size
 simp only [List.mem_cons, List.mem_append] at hj
 rcases hj with rfl | (hj | hj) | hj
 ·have := hlow j (.inl rfl); omega
 ·exact hN j hj
 ·have := hlow j (.inr (.inl hj)); omega
 ·have := hlow j (.inr (.inr hj)); omega
/-- The log is opened once more: what it answers. -/
def AgainSp (w : World) (l : List (List UInt8)) (e : Ending) (w' : World) : Prop :=
 ∃ v A n c ps, e = .returned (.tuple #[v, .slice A n c, .int .i64 0]) ∧ Kept [] w w' ∧ BytessAt w' A n c ps ∧ texts ps = l ∧ (∀ p, A = some p → w.heap.size ≤ p.block) ∧ ∀ q ∈ ps, ∀ p, q.A = some p → w.heap.size ≤ p.block
theorem sp_again {w : World} {y a : Nat} {F : List Nat} {s0 : Sp} {d : Dev} (h : SpAt w y a F s0 d) (hd : d.dead = false) {Fi each half first sectors : Nat} {sl : Sl} {l : List (List UInt8)} (hs : SpDisk Fi each d sl half l) (hF : first + 2 = Fi) (hs4 : 4 ≤ sectors) (hse : (sectors - 2) / 2 = each) (hth : first + sectors ≤ d.secs.length) :
  Calls Tryz.prog 13 #[.pointer (some ⟨a, 0, none⟩), .int .i64 first, .int .i64 sectors] w (AgainSp w l) := by
 obtain ⟨fp, hD, _⟩ := h.dv
 refine (spool_ok hD hd hs hF hs4 hse hth).mono ?_
 rintro e w' ⟨y2, zs, zt, slp, stp, A, n, c, ps, rfl, hk, _, hB, htx, _, g1, g2⟩
 exact ⟨_, A, n, c, ps, rfl, hk, hB, htx, fun p e => (g1 p e).1, fun q hq p e => (g2 q hq p e).1⟩
end Go.Proofs.YtbnflbkaogpnbaaGreat
namespace Go.Proofs.YtbnflbkaogpnbaaGreat
set_option linter.unusedVariables false
open Go.RowKit
/-- A log on a calm device. -/
structure SpC (s : Sp) (d : Dev) (now sure : List (List UInt8)) (N t W : Nat) : Prop where
 inv : ∃ q, SpInv s d q now sure
 fail : d.fail = -1
 till : d.till = -1
 len : d.secs.length = N
 turn : s.sl.turn ≤ t
 works : d.works ≤ W
theorem Sp.append_ok {s : Sp} {d : Dev} {b : List UInt8} : (s.append d b).1.half = s.half ∧ (s.append d b).1.each = s.each ∧ (s.append d b).1.first = s.first ∧ (s.append d b).1.sl = s.sl := by
 unfold Sp.append Sp.touch
 split
 ·exact ⟨rfl, rfl, rfl, rfl⟩
 ·split <;> exact ⟨rfl, rfl, rfl, rfl⟩
theorem SpC.append {s : Sp} {d : Dev} {now sure : List (List UInt8)} {N t W : Nat} (h : SpC s d now sure N t W) {b : List UInt8} (hb : b.length ≤ 16384) (hr : s.st.fin + (b.length + 7) ≤ 128 * s.each) :
  ∃ s' d', s.append d b = (s', d', 0) ∧ SpC s' d' (now ++ [b]) sure N t (W + (b.length + 8)) ∧ s'.half = s.half ∧ s'.each = s.each ∧ s'.first = s.first ∧ s'.sl = s.sl := by
 obtain ⟨q, hq⟩ := h.inv
 have hf := h.fail; have ht := h.till
 obtain ⟨h1, h2, h3, h4⟩ := hq.append (by omega) (by omega) hb
 obtain ⟨p1, p2, p3, p4⟩ := Sp.append_ok (s := s) (d := d) (b := b)
 have hl : (s.append d b).2.1.secs.length = d.secs.length := by
  unfold Sp.append
  split
  ·rfl
  ·have hw : (s.st.append d b).2.1.secs.length = d.secs.length := by
    unfold St.append
    split
    ·rfl
    ·split
     ·rfl
     ·simp only
      split
      ·exact writes_len _ _ _
      ·exact writes_len _ _ _
   split
   ·exact hw
   ·exact hw
 obtain ⟨R, hR⟩ : ∃ R, s.append d b = R := ⟨_, rfl⟩
 rw [hR] at h1 h2 h3 h4 hl p1 p2 p3 p4 ⊢
 obtain ⟨s', d', e⟩ := R
 rcases h1 with ⟨e0, e1, e2, e3, e4, e5, e6, e7, e8, e9, e10⟩ | ⟨e0, e1, e2, ⟨e3, e4⟩ | ⟨e3, e4⟩, e5⟩ | ⟨e0, e1, _⟩
 ·simp only at e0 e1 e2 e3 e4 e5 e6 e7 e8 e9 h2 h3 hl p1 p2 p3 p4
  subst e0
  exact ⟨s', d', rfl, ⟨⟨q, e1⟩, by show d'.fail = -1; omega, by show d'.till = -1; omega, hl.trans h.len, by rw [p4]; exact h.turn, by show d'.works ≤ _; have := h.works; push_cast; omega⟩, p1, p2, p3, p4⟩
 ·omega
 ·omega
 ·omega
theorem Sp.flush_half {s : Sp} {d : Dev} : (s.flush d).1.half = s.half := by
 unfold Sp.flush Sp.touch
 split
 ·rfl
 ·split
  ·rfl
  ·simp only [Sp.save_half]
theorem SpC.flush {s : Sp} {d : Dev} {now sure : List (List UInt8)} {N t W : Nat} (h : SpC s d now sure N t W) (ht1 : t + 1 ≤ 1000000) :
  ∃ s' d', s.flush d = (s', d', 0) ∧ SpC s' d' now now N (t + 1) (W + 3) ∧ s'.half = s.half ∧ s'.each = s.each ∧ s'.first = s.first ∧ s'.sl.first = s.sl.first := by
 obtain ⟨q, hq⟩ := h.inv
 have hf := h.fail; have ht := h.till; have htn := h.turn
 obtain ⟨h1, h2, h3, h4⟩ := hq.flush (by omega) (by omega) (by omega)
 have hh := Sp.flush_half (s := s) (d := d)
 obtain ⟨R, hR⟩ : ∃ R, s.flush d = R := ⟨_, rfl⟩
 rw [hR] at h1 h2 h3 h4 hh ⊢
 obtain ⟨s', d', e⟩ := R
 rcases h1 with ⟨e0, ⟨q', e1⟩, e2, e3, e4, e5, e6, e7, e8, e9, e10⟩ | ⟨e0, e1, _⟩ | ⟨e0, e1, _⟩
 ·simp only at e0 e1 e2 e3 e4 e5 e6 e7 e8 e9 e10 h2 h3 hh
  subst e0
  exact ⟨s', d', rfl, ⟨⟨q', e1⟩, by show d'.fail = -1; omega, by show d'.till = -1; omega, e10.trans h.len, by show s'.sl.turn ≤ _; omega, by show d'.works ≤ _; have := h.works; push_cast; omega⟩, hh, e5, e4, e3⟩
 ·omega
 ·omega
theorem Sp.replace_half {s : Sp} {d : Dev} {l : List (List UInt8)} (h : (s.replace d l).2.2 = 0) : (s.replace d l).1.half = 1 - s.half ∧ (s.replace d l).1.many = l.length := by
 unfold Sp.replace at h ⊢
 split at h
 ·exact absurd h (by show (100 : Int) ≠ 0; decide)
 ·rename_i h1
  rw [if_neg h1]
  split at h
  ·exact absurd h (by show (5 : Int) ≠ 0; decide)
  ·rename_i h2
   rw [if_neg h2]
   split at h
   ·exact absurd h (by show (101 : Int) ≠ 0; decide)
   ·rename_i h3
    rw [if_neg h3]
    simp only at h ⊢
    split at h
    ·rename_i h4
     exact absurd h h4
    ·rename_i h4
     rw [if_neg h4]
     split at h
     ·rename_i h5
      exact absurd h h5
     ·rename_i h5
      rw [if_neg h5]
      exact ⟨rfl, rfl⟩
theorem SpC.replace {s : Sp} {d : Dev} {now sure : List (List UInt8)} {N t W : Nat} (h : SpC s d now sure N t W) (ht1 : t + 1 ≤ 1000000) {l : List (List UInt8)} (hl : Small l) (hr : allSize l ≤ 128 * s.each) :
  ∃ s' d', s.replace d l = (s', d', 0) ∧ SpC s' d' l l N (t + 1) (W + 2 * allSize l + 3) ∧ s'.half = 1 - s.half ∧ s'.each = s.each ∧ s'.first = s.first ∧ s'.sl.first = s.sl.first := by
 obtain ⟨q, hq⟩ := h.inv
 have hf := h.fail; have ht := h.till; have htn := h.turn
 obtain ⟨h1, h2, h3, h4⟩ := hq.replace (by omega) (by omega) (by omega) hl hr
 have hh := Sp.replace_half (s := s) (d := d) (l := l)
 obtain ⟨R, hR⟩ : ∃ R, s.replace d l = R := ⟨_, rfl⟩
 rw [hR] at h1 h2 h3 h4 hh ⊢
 obtain ⟨s', d', e⟩ := R
 rcases h1 with ⟨e0, ⟨q', e1⟩, e2, e3, e4, e5, e6, e7, e8, e9, e10⟩ | ⟨e0, e1, _⟩ | ⟨e0, e1, _⟩
 ·simp only at e0 e1 e2 e3 e4 e5 e6 e7 e8 e9 e10 h2 h3 hh
  subst e0
  exact ⟨s', d', rfl, ⟨⟨q', e1⟩, by show d'.fail = -1; omega, by show d'.till = -1; omega, e10.trans h.len, by show s'.sl.turn ≤ _; omega, by show d'.works ≤ _; have := h.works; push_cast; omega⟩, (hh rfl).1, e5, e4, e3⟩
 ·omega
 ·omega
theorem SpC.new {n f each : Nat} (h1 : 1 ≤ each) (h2 : f + 2 + 2 * each ≤ n) : SpC (Sp.opened (f + 2) each 0 ⟨f, 0, 0, []⟩ []) (Dev.new n) [] [] n 0 0 :=
 ⟨⟨_, (SpDisk.new h1 h2).invNow (new_calm n).live (Dev.Sure.new n)⟩, rfl, rfl, by simp [Dev.new], Nat.le_refl _, Int.le_refl _⟩
theorem SpC.fin {s : Sp} {d : Dev} {now sure : List (List UInt8)} {N t W : Nat} (h : SpC s d now sure N t W) : s.st.fin = (recs now).length ∧ s.st.many = s.each ∧ s.many = now.length := by
 obtain ⟨q, hq⟩ := h.inv
 exact ⟨hq.finE, hq.stm, hq.many⟩
end Go.Proofs.YtbnflbkaogpnbaaGreat
namespace Go.Proofs.YtbnflbkaogpnbaaGreat
set_option linter.unusedVariables false
open Go.RowKit
theorem str_sl (w : World) (s : List UInt8) (hs : s.length ≤ 1000) (t : TypeId) : SlAt (w.drew.alloc (.cells (bytesRow ⟨s.toArray⟩ (grownCap w s.length 0 t)) t ((bytesRow ⟨s.toArray⟩ (grownCap w s.length 0 t)).size, (bytesRow ⟨s.toArray⟩ (grownCap w s.length 0 t)).size + 1))) (some ⟨w.heap.size, 0, none⟩) s.length (grownCap w s.length 0 t) (u8vs s) := by
 have hh : (w.drew.alloc (.cells (bytesRow ⟨s.toArray⟩ (grownCap w s.length 0 t)) t ((bytesRow ⟨s.toArray⟩ (grownCap w s.length 0 t)).size, (bytesRow ⟨s.toArray⟩ (grownCap w s.length 0 t)).size + 1))).heap[w.heap.size]? = _ := heap_alloc_new w.drew _
 refine ⟨by simp [u8vs], grownCap_ge w s.length 0 t, grownCap_le_maxLen w _ 0 t (by unfold maxLen; omega), fun hn => ⟨w.heap.size, 0, rfl, World.lt_of_heap hh, fun i hi => ?_⟩⟩
 rw [blk_cell hh, Nat.zero_add]
 unfold bytesRow
 rw [Array.getElem?_append_left (by simpa using hi)]
 simp [u8vs]
 rfl
/-- What texts does. -/
def TxPost (w : World) (ss : List (List UInt8)) (e : Ending) (w' : World) : Prop :=
 ∃ A c ps, e = .returned (.slice A ss.length c) ∧ Kept [] w w' ∧ BytessAt w' A ss.length c ps ∧ texts ps = ss ∧ (∀ p, A = some p → w.heap.size ≤ p.block) ∧ ∀ q ∈ ps, ∀ p, q.A = some p → w.heap.size ≤ p.block
def TxRel (w : World) (ss : List (List UInt8)) (v i : Value) (wr : World) : Prop :=
 ∃ (k : Nat) (ps : List Part) (G : List Nat), i = .int .i64 k ∧ k ≤ ss.length ∧ Kept [] w wr ∧ RowIn w.heap.size wr 45 G v k (ps.map Part.val) ∧ (∀ p ∈ ps, p.At wr) ∧ texts ps = ss.take k ∧ (∀ q ∈ ps, ∀ p, q.A = some p → w.heap.size ≤ p.block ∧ p.block ∈ G) ∧ ∀ j ∈ G, j < wr.heap.size
set_option maxHeartbeats 2000000 in
set_option maxRecDepth 100000 in
theorem texts13_any (w : World) (b o n c : Nat) (ss : List (List UInt8)) (hlen : ss.length = n) (hn : n ≤ 100) (hnc : n ≤ c) (hcm : c ≤ 9223372036854775807) (hss : ∀ s ∈ ss, 1 ≤ s.length ∧ s.length ≤ 1000) (hb : b < w.heap.size) (hc : ∀ i s, ss[i]? = some s → w.cell? ⟨b, o + i, none⟩ = some (.string ⟨s.toArray⟩)) :
  Calls Tryz.prog 14 #[.slice (some ⟨b, o, none⟩) n c] w (TxPost w ss) := by
 obtain ⟨j0, hj0, ju0, ju1, ju2⟩ := info_parts info_bytes
 go_enter Tryz.func14, Tryz.ntmps14
 go_wp2_with fail
 go_loopw [3, 4] (fun v i wr => TxRel w ss v i wr) (fun _ i _ => n - (intOf i).toNat)
 case atStart => exact ⟨0, [], [], rfl, Nat.zero_le _, Kept.refl _ _, ⟨World.ownsRow_nil _ _ _ _, fun g e => by cases e⟩, by simp, by simp [texts], by simp, by simp⟩
 case round =>
  obtain ⟨k, ps, G, rfl, hk, hkw, hrow, hpa, htx, hpG, hGl⟩ := hrel
  by_cases hlt : k < n
  ·have i1 : (k : Int) < (n : Int) := by omega
   obtain ⟨s, hs⟩ : ∃ s, ss[k]? = some s := ⟨_, List.getElem?_eq_getElem (by omega)⟩
   have cs : wr.cell? ⟨b, o + k, none⟩ = some (.string ⟨s.toArray⟩) := (hkw.cell (p := ⟨b, o + k, none⟩) hb (by simp)).trans (hc k s hs)
   have hmem := hss s (List.mem_of_getElem? hs)
   have hcv := run_bytes_of_string (P := Tryz.prog) wr 9 45 5 ⟨s.toArray⟩ Tryz.underlying9 Tryz.underlying45 Tryz.underlying5
   rw [show (⟨s.toArray⟩ : ByteArray).size = s.length by simp [ByteArray.size]] at hcv
   obtain ⟨G1, hG1⟩ : ∃ G1, grownCap wr s.length 0 5 = G1 := ⟨_, rfl⟩
   have hsl := str_sl wr s hmem.2 5
   have hkA := (Kept.drew [] wr).trans (Kept.alloc [] wr.drew (.cells (bytesRow ⟨s.toArray⟩ (grownCap wr s.length 0 5)) 5 ((bytesRow ⟨s.toArray⟩ (grownCap wr s.length 0 5)).size, (bytesRow ⟨s.toArray⟩ (grownCap wr s.length 0 5)).size + 1)))
   rw [hG1] at hcv hsl hkA
   obtain ⟨wA, hwA⟩ : ∃ wA, (wr.drew.alloc (.cells (bytesRow ⟨s.toArray⟩ G1) 5 ((bytesRow ⟨s.toArray⟩ G1).size, (bytesRow ⟨s.toArray⟩ G1).size + 1))) = wA := ⟨_, rfl⟩
   have hzA : wA.heap.size = wr.heap.size + 1 := by rw [← hwA]; simp
   rw [hwA] at hcv hsl hkA
   clear hwA hG1
   have hpt : Part.At wA ⟨some ⟨wr.heap.size, 0, none⟩, s.length, G1, s⟩ := ⟨hsl, fun e => by cases e⟩
   have hrA : RowIn w.heap.size wA 45 (wr.heap.size :: G) u3 k (ps.map Part.val) := hrow.step ⟨hkA.mono (by simp), fun j hj => by
    rcases List.mem_cons.mp hj with rfl | hj
    ·exact .inr (Nat.le_refl _)
    ·exact .inl hj⟩
   have hkw2 := hkw.size
   go_wp2_with (at_builtin; refine Hold.of ?_)
   clear hcv
   unfold Hold
   refine wpList_append_lies _ rfl (.tmp 11) (.tmp 17) 37 rfl w.heap.size 45 j0 _ 1 24 Tryz.underlying37 hj0 ju0 ju1 ju2 rfl (by decide) _ k _ rfl (hrA.next (Kept.alloc [] wA (.cells #[.slice (some ⟨wr.heap.size, 0, none⟩) s.length G1] 45))).own ⟨wr.heap.size + 1, 0, none⟩ 1 1 [.slice (some ⟨wr.heap.size, 0, none⟩) s.length G1] rfl rfl (by rw [← hzA]; exact one_news wA _ _) (one_slice _ _ _) (by omega) (by unfold maxLen; omega) (by omega) (by simp; omega) (wA.heap.size + 1) (by simp) ?_
   intro g cap w5 hown5 hgrow5 hat5 hlt5
   obtain ⟨hr5, hk5, hu5⟩ := hrA.push (fun j hj => by
    rcases List.mem_cons.mp hj with rfl | hj
    ·omega
    ·have := hGl j hj; omega) (Kept.alloc [] wA (.cells #[.slice (some ⟨wr.heap.size, 0, none⟩) s.length G1] 45)) hgrow5 hown5 hat5 (by simp)
   clear hown5 hgrow5 hat5 hlt5
   go_wp2_with fail
   go_roundw
   case rel =>
    refine ⟨k + 1, ps ++ [⟨some ⟨wr.heap.size, 0, none⟩, s.length, G1, s⟩], wr.heap.size :: G, by go_num, by omega, (hkw.trans hkA).trans' hk5 (fun i hi => .inr ((hrA.own.lt i (by simpa using hi)).1)), by rw [List.map_append]; exact hr5, ?_, ?_, ?_, ?_⟩
    ·intro p hp
     have hne : ∀ q : Part, (∀ a, q.A = some a → a.block ∈ wr.heap.size :: G) → ∀ a, q.A = some a → a.block ∉ (u3.ownBlock).toList := fun q hq a e hm => hrA.ne a.block (by simpa using hm) (hq a e)
     rcases List.mem_append.mp hp with hp | hp
     ·exact ((hpa p hp).kept hkA (by simp)).kept hk5 (hne p (fun a e => List.mem_cons_of_mem _ (hpG p hp a e).2))
     ·obtain rfl := List.mem_singleton.mp hp
      exact hpt.kept hk5 (hne _ (fun a e => by cases e; simp))
    ·rw [take_snoc hs]
     simp only [texts, List.map_append, List.map_cons, List.map_nil]
     unfold texts at htx
     rw [htx]
    ·intro q hq p e
     rcases List.mem_append.mp hq with hq | hq
     ·exact ⟨(hpG q hq p e).1, List.mem_cons_of_mem _ (hpG q hq p e).2⟩
     ·obtain rfl := List.mem_singleton.mp hq
      cases e
      exact ⟨hkw2, by simp⟩
    ·intro j hj
     have h5 := hk5.size
     rcases List.mem_cons.mp hj with rfl | hj
     ·omega
     ·have := hGl j hj; omega
   case measure => simp [intOf]; omega
  ·obtain rfl : k = n := by omega
   go_wp2_with fail
   go_ret
   obtain ⟨A, c', rfl, hB⟩ := hrow.parts hpa
   subst hlen
   rw [List.take_length] at htx
   refine ⟨A, c', ps, rfl, hkw, hB, htx, fun p e => ?_, fun q hq p e => (hpG q hq p e).1⟩
   exact (hrow.own.lt p.block (by simp [Value.ownBlock, e])).1
end Go.Proofs.YtbnflbkaogpnbaaGreat
namespace Go.Proofs.YtbnflbkaogpnbaaGreat
set_option linter.unusedVariables false
open Go.RowKit
/-- A log on a calm device, in memory: its place, its half, its records, those that are sure; bounds of its turn and its works. -/
def SpK (w0 w : World) (y a : Nat) (F : List Nat) (f each half : Nat) (now sure : List (List UInt8)) (N t W : Nat) : Prop :=
 ∃ s d, SpF w0 w y a F s d ∧ SpC s d now sure N t W ∧ s.half = half ∧ s.each = each ∧ s.first = f + 2 ∧ s.sl.first = f
/-- What a deed leaves of it. -/
def SpKPost (w0 w : World) (y a : Nat) (F : List Nat) (f each half : Nat) (now sure : List (List UInt8)) (N t W : Nat) (n : Int) (e : Ending) (w' : World) : Prop :=
 e = .returned (.int .i64 n) ∧ ∃ F', SpK w0 w' y a F' f each half now sure N t W ∧ Step F F' w w'
section
variable {w0 w : World} {y a : Nat} {F : List Nat} {f each half : Nat} {now sure : List (List UInt8)} {N t W : Nat}
theorem SpK.next (h : SpK w0 w y a F f each half now sure N t W) {w' : World} (hk : Kept [] w w') : SpK w0 w' y a F f each half now sure N t W := by
 obtain ⟨s, d, h1, h2⟩ := h
 exact ⟨s, d, h1.next hk, h2⟩
theorem SpK.kept (h : SpK w0 w y a F f each half now sure N t W) : Kept [] w0 w := by
 obtain ⟨s, d, h1, h2⟩ := h
 exact h1.kept
theorem SpK.lt (h : SpK w0 w y a F f each half now sure N t W) : ∀ j ∈ F, j < w.heap.size := by
 obtain ⟨s, d, h1, h2⟩ := h
 exact h1.at_.lt
theorem SpK.append (h : SpK w0 w y a F f each half now sure N t W) (hW : W < 1000000000) (hl : now.length < 1000000) (A : Option Addr) (n c : Nat) (b : List UInt8) (hb : SlAt w A n c (u8vs b)) (hA : A = none → c = 0) (hAy : ∀ p, A = some p → 0 < n → p.block ∉ F) (hbl : b.length ≤ 16384) (hr : (recs now).length + (b.length + 7) ≤ 128 * each) :
  Calls Tryz.prog 4 #[.pointer (some ⟨y, 0, none⟩), .slice A n c] w (SpKPost w0 w y a F f each half (now ++ [b]) sure N t (W + (b.length + 8)) 0) := by
 obtain ⟨s, d, h1, h2, rfl, rfl, h5, h6⟩ := h
 obtain ⟨f1, f2, f3⟩ := h2.fin
 obtain ⟨q, hq⟩ := h2.inv
 obtain ⟨s', d', e1, e2, e3, e4, e5, e6⟩ := h2.append hbl (by rw [f1]; exact hr)
 have hc := sp_append h1.at_ hq (by omega) A n c b hb hA hAy (by have := h2.works; omega)
 rw [e1] at hc
 refine hc.mono ?_
 rintro e w' ⟨rfl, F', g1, g2⟩
 exact ⟨rfl, F', ⟨s', d', h1.step g1 g2, e2, e3, e4, e5.trans h5, by rw [e6]; exact h6⟩, g2⟩
/-- There is no room. -/
theorem SpK.full (h : SpK w0 w y a F f each half now sure N t W) (hW : W < 1000000000) (hl : now.length < 1000000) (A : Option Addr) (n c : Nat) (b : List UInt8) (hb : SlAt w A n c (u8vs b)) (hA : A = none → c = 0) (hAy : ∀ p, A = some p → 0 < n → p.block ∉ F) (hbl : b.length ≤ 16384) (hr : 128 * each < (recs now).length + (b.length + 7)) :
  Calls Tryz.prog 4 #[.pointer (some ⟨y, 0, none⟩), .slice A n c] w (SpKPost w0 w y a F f each half now sure N t W 101) := by
 obtain ⟨s, d, h1, h2, rfl, rfl, h5, h6⟩ := h
 obtain ⟨f1, f2, f3⟩ := h2.fin
 obtain ⟨q, hq⟩ := h2.inv
 have e0 : s.st.append d b = (s.st, d, 101) := by unfold St.append; rw [if_neg (by omega), if_pos (by omega)]
 have e1 : s.append d b = (s, d, 101) := by
  unfold Sp.append
  rw [hq.wrongNo, e0]
  rfl
 have hc := sp_append h1.at_ hq (by omega) A n c b hb hA hAy (by have := h2.works; omega)
 rw [e1] at hc
 refine hc.mono ?_
 rintro e w' ⟨rfl, F', g1, g2⟩
 exact ⟨rfl, F', ⟨s, d, h1.step g1 g2, h2, rfl, rfl, h5, h6⟩, g2⟩
theorem SpK.flush (h : SpK w0 w y a F f each half now sure N t W) (hW : W < 1000000000) (hl : now.length < 1000000) (ht : t + 1 ≤ 1000000) :
  Calls Tryz.prog 5 #[.pointer (some ⟨y, 0, none⟩)] w (SpKPost w0 w y a F f each half now now N (t + 1) (W + 3) 0) := by
 obtain ⟨s, d, h1, h2, rfl, rfl, h5, h6⟩ := h
 obtain ⟨f1, f2, f3⟩ := h2.fin
 obtain ⟨q, hq⟩ := h2.inv
 obtain ⟨s', d', e1, e2, e3, e4, e5, e6⟩ := h2.flush ht
 have hc := sp_flush h1.at_ hq (by omega) (by have := h2.turn; omega) (by have := h2.works; omega)
 rw [e1] at hc
 refine hc.mono ?_
 rintro e w' ⟨rfl, F', g1, g2⟩
 exact ⟨rfl, F', ⟨s', d', h1.step g1 g2, e2, e3, e4, e5.trans h5, e6.trans h6⟩, g2⟩
theorem SpK.replace (h : SpK w0 w y a F f each half now sure N t W) (hW : W < 1000000000) (ht : t + 1 ≤ 1000000) (A : Option Addr) (n c : Nat) (ps : List Part) (hB : BytessAt w A n c ps) (hsm : Small (texts ps)) (hn : n ≤ 1000) (hA : ∀ p, A = some p → 0 < n → p.block ∉ F) (hps : ∀ q ∈ ps, ∀ p, q.A = some p → 0 < q.n → p.block ∉ F) (hr : allSize (texts ps) ≤ 128 * each) :
  Calls Tryz.prog 6 #[.pointer (some ⟨y, 0, none⟩), .slice A n c] w (SpKPost w0 w y a F f each (1 - half) (texts ps) (texts ps) N (t + 1) (W + 2 * allSize (texts ps) + 3) 0) := by
 obtain ⟨s, d, h1, h2, rfl, rfl, h5, h6⟩ := h
 obtain ⟨q, hq⟩ := h2.inv
 have hf := h2.fail; have ht2 := h2.till
 obtain ⟨s', d', e1, e2, e3, e4, e5, e6⟩ := h2.replace ht hsm hr
 have hc := sp_replace h1.at_ hq (by omega) (by omega) (by have := h2.turn; omega) (by have := h2.works; omega) A n c ps hB hsm hn hA hps
 rw [e1] at hc
 refine hc.mono ?_
 rintro e w' ⟨rfl, F', g1, g2⟩
 exact ⟨rfl, F', ⟨s', d', h1.step g1 g2, e2, e3, e4, e5.trans h5, e6.trans h6⟩, g2⟩
theorem SpK.great (h : SpK w0 w y a F f each half now sure N t W) (hW : W < 1000000000) (ht : t + 1 ≤ 1000000) (A : Option Addr) (n c : Nat) (ps : List Part) (hB : BytessAt w A n c ps) (hsm : Small (texts ps)) (hn : n ≤ 1000) (hA : ∀ p, A = some p → 0 < n → p.block ∉ F) (hps : ∀ q ∈ ps, ∀ p, q.A = some p → 0 < q.n → p.block ∉ F) (hr : 128 * each < allSize (texts ps)) :
  Calls Tryz.prog 6 #[.pointer (some ⟨y, 0, none⟩), .slice A n c] w (SpKPost w0 w y a F f each half now sure N t W 101) := by
 obtain ⟨s, d, h1, h2, rfl, rfl, h5, h6⟩ := h
 obtain ⟨q, hq⟩ := h2.inv
 have hf := h2.fail; have ht2 := h2.till
 have e1 : s.replace d (texts ps) = (s, d, 101) := by
  unfold Sp.replace
  rw [if_neg (by rw [hq.wrongNo]; decide), if_neg (by
   simp only [List.any_eq_true, not_exists, not_and]
   intro b hb
   have := hsm b hb
   simp; omega), if_pos hr]
 have hc := sp_replace h1.at_ hq (by omega) (by omega) (by have := h2.turn; omega) (by have := h2.works; omega) A n c ps hB hsm hn hA hps
 rw [e1] at hc
 refine hc.mono ?_
 rintro e w' ⟨rfl, F', g1, g2⟩
 exact ⟨rfl, F', ⟨s, d, h1.step g1 g2, h2, rfl, rfl, h5, h6⟩, g2⟩
theorem SpK.len (h : SpK w0 w y a F f each half now sure N t W) : Calls Tryz.prog 7 #[.pointer (some ⟨y, 0, none⟩)] w (SpKPost w0 w y a F f each half now sure N t W now.length) := by
 obtain ⟨s, d, h1, h2, rfl, rfl, h5, h6⟩ := h
 obtain ⟨q, hq⟩ := h2.inv
 refine (sp_len h1.at_ hq).mono ?_
 rintro e w' ⟨rfl, F', g1, g2⟩
 exact ⟨by rw [h2.fin.2.2], F', ⟨s, d, h1.step g1 g2, h2, rfl, rfl, h5, h6⟩, g2⟩
theorem SpK.half_ (h : SpK w0 w y a F f each half now sure N t W) : Calls Tryz.prog 9 #[.pointer (some ⟨y, 0, none⟩)] w (SpKPost w0 w y a F f each half now sure N t W half) := by
 obtain ⟨s, d, h1, h2, rfl, rfl, h5, h6⟩ := h
 obtain ⟨q, hq⟩ := h2.inv
 refine (sp_half h1.at_ hq).mono ?_
 rintro e w' ⟨rfl, F', g1, g2⟩
 exact ⟨rfl, F', ⟨s, d, h1.step g1 g2, h2, rfl, rfl, h5, h6⟩, g2⟩
theorem SpK.left (h : SpK w0 w y a F f each half now sure N t W) : Calls Tryz.prog 8 #[.pointer (some ⟨y, 0, none⟩)] w (SpKPost w0 w y a F f each half now sure N t W (128 * each - (recs now).length)) := by
 obtain ⟨s, d, h1, h2, rfl, rfl, h5, h6⟩ := h
 obtain ⟨f1, f2, f3⟩ := h2.fin
 obtain ⟨q, hq⟩ := h2.inv
 refine (sp_left h1.at_ hq).mono ?_
 rintro e w' ⟨rfl, F', g1, g2⟩
 exact ⟨by rw [f1, f2], F', ⟨s, d, h1.step g1 g2, h2, rfl, rfl, h5, h6⟩, g2⟩
/-- Opened once more. -/
theorem SpK.again (h : SpK w0 w y a F f each half now sure N t W) {sectors : Nat} (hs4 : 4 ≤ sectors) (hse : (sectors - 2) / 2 = each) (hth : f + sectors ≤ N) :
  Calls Tryz.prog 13 #[.pointer (some ⟨a, 0, none⟩), .int .i64 f, .int .i64 sectors] w (AgainSp w sure) := by
 obtain ⟨s, d, h1, h2, rfl, rfl, h5, h6⟩ := h
 obtain ⟨q, hq⟩ := h2.inv
 exact sp_again h1.at_ hq.live.dead hq.disk h5.symm hs4 hse (by rw [h2.len]; exact hth)
set_option maxHeartbeats 1000000 in
theorem SpK.opens (h : SpK w0 w y a F 0 4 half now sure 10 t W) (A : Option Addr) (n c : Nat) (ps : List Part) (hB : BytessAt w A n c ps) (ht : texts ps = sure) :
  Calls Tryz.prog 36 #[.pointer (some ⟨a, 0, none⟩), .slice A n c] w (TrueKept w) := by
 have co := h.again (sectors := 10) (by omega) rfl (by omega)
 replace co : Calls Tryz.prog 13 #[.pointer (some ⟨a, 0, none⟩), .int .i64 0, .int .i64 10] w (AgainSp w sure) := co
 go_enter Tryz.func36, Tryz.ntmps36
 go_wp2_with fail
 refine co.mono ?_
 rintro e w1 ⟨v, A1, n1, c1, ps1, rfl, hk1, hB1, ht1, -, -⟩
 go_wp2_with fail
 refine (sameLists_true w1 A1 A n1 c1 n c ps1 ps hB1 (hB.new hk1) (by rw [ht1, ht])).mono ?_
 rintro e w2 ⟨rfl, hk2⟩
 go_wp2_with fail
 go_ret
 exact ⟨rfl, hk1.trans (by first | exact hk2 | (obtain ⟨q, rfl⟩ := hk2; exact Kept.drewN [] _ q))⟩
end
/-- Open of too few sectors. -/
theorem spool_few {w : World} {a : Nat} {fp : List Nat} {d : Dev} (hD : Dv w a fp d) (hd : d.dead = false) (hl : 0 < d.secs.length) : Calls Tryz.prog 13 #[.pointer (some ⟨a, 0, none⟩), .int .i64 0, .int .i64 3] w (OpenErr w 9) := by
 obtain ⟨b0, hb0⟩ : ∃ b, d.secs[(0 : Int).toNat]? = some b := ⟨_, List.getElem?_eq_getElem hl⟩
 have cr := read_dv hD 0 (at_live hd (i := 0) hl) hb0
 have i2 : ¬ (d.secs.length : Int) < 0 := by omega
 clear hb0
 go_enter Tryz.func13, Tryz.ntmps13
 go_wp2_with fail
 refine cr.mono ?_
 rintro e w1 ⟨A1, c1, rfl, hown1, hbel1⟩
 have hk1 := Kept.of_below (F := []) hbel1
 clear hown1 hbel1 cr
 go_wp2_with fail
 refine (size_dv (hD.new_kept hk1)).mono ?_
 rintro e w1' ⟨rfl, rfl⟩
 go_wp2_with fail
 go_ret3
 exact ⟨rfl, hk1⟩
/-- A new device's log. -/
theorem spk_new {w0 w : World} {a : Nat} {fp : List Nat} {n f sectors each : Nat} (hD : Dv w a fp (Dev.new n)) (hk : Kept [] w0 w) (hN : ∀ j ∈ fp, w0.heap.size ≤ j) (h4 : 4 ≤ sectors) (he : (sectors - 2) / 2 = each) (hf : f + sectors ≤ n) :
  Calls Tryz.prog 13 #[.pointer (some ⟨a, 0, none⟩), .int .i64 f, .int .i64 sectors] w (fun e w' => ∃ y F A c, e = .returned (.tuple #[.pointer (some ⟨y, 0, none⟩), .slice A 0 c, .int .i64 0]) ∧ SpK w0 w' y a F f each 0 [] [] n 0 0) := by
 refine (sp_new hD hk hN h4 he hf).mono ?_
 rintro e w' ⟨y, F, A, c, rfl, h⟩
 exact ⟨y, F, A, c, rfl, _, _, h, SpC.new (by omega) (by omega), rfl, rfl, rfl, rfl⟩
end Go.Proofs.YtbnflbkaogpnbaaGreat
