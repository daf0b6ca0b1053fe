/- Texts in one: J1 J2 J3 J4. -/
import Derived.Test.YtbnflbkaogpnbaaGreatPAQ
namespace Go.Proofs.YtbnflbkaogpnbaaGreat
set_option linter.unusedVariables false
theorem drop_set_lt {l : List Blk} {j n : Nat} (h : j < n) (v : Blk) : (l.set j v).drop n = l.drop n := by
 apply List.ext_getElem?
 intro i
 rw [List.getElem?_drop, List.getElem?_drop, List.getElem?_set_ne (by omega)]
theorem recs_len_append (l m : List (List UInt8)) : (recs (l ++ m)).length = (recs l).length + (recs m).length := by rw [recs_append, List.length_append]
theorem SpInv.finE {s : Sp} {d : Dev} {q : List Blk} {now sure : List (List UInt8)} (h : SpInv s d q now sure) : s.st.fin = (recs now).length := h.st.fin h.live.size
/-- Behind a part of an Append. -/
theorem SpInv.partly {s : Sp} {d : Dev} {q : List Blk} {now sure : List (List UInt8)} (h : SpInv s d q now sure) {X : List Blk} (hP : Partly s.st d X) :
  (∀ i : Nat, i = s.sl.first ∨ i = s.sl.first + 1 → X[i]? = d.secs[i]?) ∧ (X.drop (s.first + s.half * s.each)).flatten.take (recs sure).length = recs sure := by
 have hF := h.disk.slF
 have hst := h.stf
 refine ⟨fun i hi => hP.rest i (.inl (by omega)), ?_⟩
 obtain ⟨m, hm⟩ := h.pre
 have hfe := h.finE
 rw [hm, recs_len_append] at hfe
 have h1 := congrArg (List.take (recs sure).length) hP.rows
 rw [List.take_take, List.take_take, Nat.min_eq_left (by omega)] at h1
 rw [← hst, h1, hst]
 exact h.disk.rows
/-- What an Append leaves of a log. -/
def ApEnds (s : Sp) (d : Dev) (q : List Blk) (now sure : List (List UInt8)) (b : List UInt8) (r : Sp × Dev × Int) : Prop :=
 (r.2.2 = 0 ∧ SpInv r.1 r.2.1 q (now ++ [b]) sure ∧ r.1.sl = s.sl ∧ r.1.first = s.first ∧ r.1.each = s.each ∧ r.1.half = s.half ∧ -1 ≤ r.2.1.fail ∧ r.2.1.fail ≤ d.fail ∧ -1 ≤ r.2.1.till ∧ r.2.1.till ≤ d.till ∧ s.st.fin + (b.length + 7) ≤ 128 * s.each) ∨
 (r.2.2 = 101 ∧ SpInv r.1 r.2.1 q now sure ∧ r.1 = s ∧ ((r.2.1 = d ∧ 128 * s.each < s.st.fin + (b.length + 7)) ∨ (0 ≤ d.till ∧ r.2.1.till = 0)) ∧ (d.fail = -1 → r.2.1.fail = -1)) ∨
 (r.2.2 = 100 ∧ 0 ≤ d.fail ∧ r.2.1.dead = true ∧ r.2.1.fail = -1 ∧ r.2.1.till = -1 ∧ r.2.1.sure = [] ∧ SpDisk s.first s.each r.2.1 s.sl s.half sure)
theorem SpInv.append {s : Sp} {d : Dev} {q : List Blk} {now sure : List (List UInt8)} (h : SpInv s d q now sure) (hf : -1 ≤ d.fail) (ht : -1 ≤ d.till) {b : List UInt8} (hb : b.length ≤ 16384) :
  ApEnds s d q now sure b (s.append d b) ∧ d.works ≤ (s.append d b).2.1.works ∧ (s.append d b).2.1.works ≤ d.works + 1 + (b.length + 7) ∧ (s.append d b).2.1.keep = d.keep := by
 have hw : s.wrong d = false := by unfold Sp.wrong; rw [h.ok, h.live.dead]; rfl
 unfold Sp.append
 rw [hw]
 simp only [Bool.false_eq_true, if_false]
 have hstm := h.stm
 by_cases hr : s.st.fin + (b.length + 7) ≤ 128 * s.st.many
 ·obtain ⟨h1, h2, h3⟩ := h.st.append_any h.live hf ht hb hr
  obtain ⟨R, hR⟩ : ∃ R, s.st.append d b = R := ⟨_, rfl⟩
  rw [hR] at h1 h2 h3 ⊢
  rcases h3 with ⟨e0, e1, e2, e3, e4, e5, e6, e7, e8, e9, e10, e11⟩ | ⟨e0, e1, e2, e3, e4, e5, e6, e7, e8⟩ | ⟨e0, e1, e2, e3, e4, e5, e6, X, e7, e8⟩
  ·rw [if_pos e0]
   obtain ⟨p1, p2⟩ := h.partly e6
   refine ⟨.inl ⟨rfl, ⟨e1, e7 q h.qs, h.qsize, h.ok, h.disk.same e1.size e6.len p1 p2, fun i hi => (h.slq i hi).trans (p1 i hi).symm, e2, by show R.1.first = _; rw [e3]; exact h.stf, by show R.1.many = _; rw [e4]; exact h.stm, by simp [h.many], ?_, ?_, fun e => by cases e⟩, rfl, rfl, rfl, rfl, e8, e9, e10, e11, by omega⟩, h1.1, h1.2, h2⟩
   ·obtain ⟨m, hm⟩ := h.pre
    exact ⟨m ++ [b], by rw [hm, List.append_assoc]⟩
   ·show (q.drop R.1.first).flatten.take _ = _
    rw [e3]
    exact h.rowq
  ·rw [if_neg (by rw [e0]; decide)]
   obtain ⟨p1, p2⟩ := h.partly e5
   have hs : ({ s with st := R.1 } : Sp) = s := by rw [e1]
   rw [hs]
   refine ⟨.inr (.inl ⟨e0, ⟨e3, e6 q h.qs, h.qsize, h.ok, h.disk.same e3.size e5.len p1 p2, fun i hi => (h.slq i hi).trans (p1 i hi).symm, e4, h.stf, h.stm, h.many, h.pre, h.rowq, h.added⟩, rfl, .inr ⟨e2, e7⟩, e8⟩), h1.1, h1.2, h2⟩
  ·rw [if_neg (by rw [e0]; decide)]
   obtain ⟨p1, p2⟩ := h.partly e7
   refine ⟨.inr (.inr ⟨e0, e2, e3, e4, e5, e6, ?_⟩), h1.1, h1.2, h2⟩
   have hq2 := h.rowq
   rw [h.stf] at hq2
   exact h.disk.mixed (e8 q h.qs) e7.size h.qsize e7.len (fun i hi => ⟨p1 i hi, h.slq i hi⟩) p2 hq2
 ·have e1 : s.st.append d b = (s.st, d, 101) := by unfold St.append; rw [if_neg (by omega), if_pos (by omega)]
  rw [e1]
  simp only [show (101 : Int) = 0 ↔ False from by decide, if_false]
  exact ⟨.inr (.inl ⟨rfl, h, rfl, .inl ⟨rfl, by omega⟩, fun e => e⟩), Int.le_refl _, by omega, by first | rfl | trivial⟩
/-- Either of two. -/
def SpEither (F each : Nat) (d : Dev) (sl : Sl) (half : Nat) (sure : List (List UInt8)) (sl' : Sl) (half' : Nat) (next : List (List UInt8)) : Prop :=
 SpDisk F each d sl half sure ∨ SpDisk F each d sl' half' next
/-- What saving a manifest leaves. -/
def SvEnds (s : Sp) (d : Dev) (sure : List (List UInt8)) (half' : Nat) (next : List (List UInt8)) (r : Sp × Dev × Int) : Prop :=
 (r.2.2 = 0 ∧ r.1 = { s with sl := s.sl.next (manB half' (recs next).length next.length), broken := false } ∧ r.2.1.Live ∧ r.2.1.Sure r.2.1.secs ∧ SpDisk s.first s.each r.2.1 (s.sl.next (manB half' (recs next).length next.length)) half' next ∧
  (∀ i : Nat, s.first ≤ i → r.2.1.secs[i]? = d.secs[i]?) ∧ r.2.1.secs.length = d.secs.length ∧ -1 ≤ r.2.1.fail ∧ r.2.1.fail ≤ d.fail ∧ -1 ≤ r.2.1.till ∧ r.2.1.till ≤ d.till) ∨
 (r.2.2 = 101 ∧ 0 ≤ d.till ∧ r.2.1.Live ∧ (d.fail = -1 → r.2.1.fail = -1) ∧ SpEither s.first s.each r.2.1 s.sl s.half sure (s.sl.next (manB half' (recs next).length next.length)) half' next) ∨
 (r.2.2 = 100 ∧ 0 ≤ d.fail ∧ r.2.1.dead = true ∧ r.2.1.fail = -1 ∧ r.2.1.till = -1 ∧ r.2.1.sure = [] ∧ SpEither s.first s.each r.2.1 s.sl s.half sure (s.sl.next (manB half' (recs next).length next.length)) half' next)
theorem save_any {s : Sp} {d : Dev} {q : List Blk} {sure next : List (List UInt8)} {half' : Nat} (hl : d.Live) (hf : -1 ≤ d.fail) (ht : -1 ≤ d.till) (hq : d.Sure q) (hqs : ∀ b ∈ q, b.length = 128) (hok : s.broken = false)
  (hd : SpDisk s.first s.each d s.sl s.half sure) (hslq : ∀ i : Nat, i = s.sl.first ∨ i = s.sl.first + 1 → q[i]? = d.secs[i]?) (hrq : (q.drop (s.first + s.half * s.each)).flatten.take (recs sure).length = recs sure)
  (ht1 : s.sl.turn + 1 ≤ 1000000) (hh : half' ≤ 1) (hsm : Small next) (hfit : (recs next).length ≤ 128 * s.each) (hrow : (d.bytesAt (s.first + half' * s.each)).take (recs next).length = recs next) :
  SvEnds s d sure half' next (s.save d (manB half' (recs next).length next.length)) ∧ d.works ≤ (s.save d (manB half' (recs next).length next.length)).2.1.works ∧ (s.save d (manB half' (recs next).length next.length)).2.1.works ≤ d.works + 3 ∧ (s.save d (manB half' (recs next).length next.length)).2.1.keep = d.keep := by
 obtain ⟨m, hm⟩ : ∃ m, manB half' (recs next).length next.length = m := ⟨_, rfl⟩
 have hml : m.length ≤ 100 := by rw [← hm, length_manB]; omega
 have hF := hd.slF
 unfold SvEnds
 rw [hm]
 unfold Sp.save
 obtain ⟨w1, w2, w3⟩ := hl.flush
 obtain ⟨Q, hQ⟩ : ∃ Q, d.flush = Q := ⟨_, rfl⟩
 rw [hQ] at w1 w2 w3 ⊢
 rcases w3 with ⟨f0, f1, f2, f3, f4, f5, f6⟩ | ⟨f0, f1⟩ | ⟨f0, f1, f2, f3, f4, f5, f6⟩
 ·rw [if_neg (by rw [f0]; decide)]
  have hon : SlOn s.sl Q.1 := hd.slOn.same (fun i _ => by rw [f2]) (by rw [f2])
  have hso := hon.save f1 (by omega) (by omega) (by rw [f2]; exact f3) hml
  obtain ⟨R, hR⟩ : ∃ R, s.sl.save Q.1 m = R := ⟨_, rfl⟩
  rw [hR] at hso ⊢
  have hso2 := hso.on hon ht1 hml (d' := R.2.1) rfl
  obtain ⟨g1, g2, g3, g4⟩ := hso
  have hwl := hon.which
  have hwi : s.sl.first + s.sl.which < s.first := by
   obtain ⟨x, y, _, _, h3⟩ := hon.pair
   have := h3.which_le
   omega
  rw [f2] at g1 hso2
  have hlen : R.2.1.secs.length = d.secs.length := by
   rcases g1 with e | e
   ·rw [e]
   ·rw [e, List.length_set]
  have hat : ∀ i : Nat, s.first ≤ i → R.2.1.secs[i]? = d.secs[i]? := fun i hi => by
   rcases g1 with e | e
   ·rw [e]
   ·rw [e, List.getElem?_set_ne (by omega)]
  have hby : ∀ n, s.first ≤ n → R.2.1.bytesAt n = d.bytesAt n := fun n hn => by
   unfold Dev.bytesAt
   rcases g1 with e | e
   ·rw [e]
   ·rw [e, drop_set_lt (by omega)]
  have hsz : ∀ b ∈ R.2.1.secs, b.length = 128 := fun b hb => by
   rcases g1 with e | e
   ·rw [e] at hb; exact hl.size b hb
   ·rw [e] at hb
    rcases List.mem_or_eq_of_mem_set hb with h1 | h1
    ·exact hl.size b h1
    ·rw [h1]; exact length_slotB (by omega)
  have hman : Man (s.sl.next m) half' next := ⟨hh, fun e => by simp [Sl.next] at e, fun _ => hm.symm⟩
  have key : SpEither s.first s.each R.2.1 s.sl s.half sure (s.sl.next m) half' next := by
   rcases hso2 with ⟨e1, e2⟩ | ⟨e1, e2⟩
   ·exact .inl ⟨hsz, e1, hF, hd.one, by rw [hlen]; exact hd.there, hd.man, hd.small, hd.fits, by rw [hby _ (by omega)]; exact hd.rows⟩
   ·exact .inr ⟨hsz, e1, hF, hd.one, by rw [hlen]; exact hd.there, hman, hsm, hfit, by rw [hby _ (by omega)]; exact hrow⟩
  have hwk : d.works ≤ R.2.1.works ∧ R.2.1.works ≤ d.works + 3 := by omega
  rcases g4 with ⟨e0, e1, e2, e3, e4, e5, e6, e7, e8, e9⟩ | ⟨e0, e1, e2, e3, e4, e5⟩ | ⟨e0, e1, e2, e3, e4, e5, e6⟩
  ·refine ⟨.inl ⟨e0, ?_, e3, e4, ?_, hat, hlen, e6, by show R.2.1.fail ≤ _; omega, e8, by show R.2.1.till ≤ _; omega⟩, hwk.1, hwk.2, g3.trans w2⟩
   ·simp only [e1, e0, hok, ne_eq, not_true_eq_false, decide_false, Bool.or_false]
   ·have hset : R.2.1.secs = d.secs.set (s.sl.first + s.sl.which) (slotB (s.sl.turn + 1) m) := by rw [e2, f2]
    have hon2 : SlOn (s.sl.next m) R.2.1 := hd.slOn.set ht1 hml (fun i _ => by rw [hset]) hlen
    exact ⟨hsz, hon2, hF, hd.one, by rw [hlen]; exact hd.there, hman, hsm, hfit, by rw [hby _ (by omega)]; exact hrow⟩
  ·exact ⟨.inr (.inl ⟨e0, by omega, e3, fun e => e5 (by omega), key⟩), hwk.1, hwk.2, g3.trans w2⟩
  ·exact ⟨.inr (.inr ⟨e0, by omega, e3, e4, e5, e6, key⟩), hwk.1, hwk.2, g3.trans w2⟩
 ·have fq : Q.2 = 101 ∧ Q.1 = d := by rw [f0]; exact ⟨rfl, rfl⟩
  rw [if_pos (by rw [fq.1]; decide), fq.2, fq.1]
  exact ⟨.inr (.inl ⟨rfl, by omega, hl, fun e => e, .inl hd⟩), Int.le_refl _, by show d.works ≤ _; omega, rfl⟩
 ·rw [if_pos (by rw [f0]; decide)]
  have hd2 : SpDisk s.first s.each Q.1 s.sl s.half sure := hd.mixed (f6 q hq) hl.size hqs rfl (fun i hi => ⟨rfl, hslq i hi⟩) hd.rows hrq
  exact ⟨.inr (.inr ⟨f0, f1, f2, f3, f4, f5, .inl hd2⟩), w1.1, by show Q.1.works ≤ _; omega, w2⟩
end Go.Proofs.YtbnflbkaogpnbaaGreat
namespace Go.Proofs.YtbnflbkaogpnbaaGreat
set_option linter.unusedVariables false
/-- What Flush or Replace leaves of a log: what is sure is as it was, or as it was to be. -/
def FlEnds (s : Sp) (d : Dev) (sure next : List (List UInt8)) (r : Sp × Dev × Int) : Prop :=
 (r.2.2 = 0 ∧ (∃ q, SpInv r.1 r.2.1 q next next) ∧ r.1.sl.turn ≤ s.sl.turn + 1 ∧ r.1.sl.first = s.sl.first ∧ r.1.first = s.first ∧ r.1.each = s.each ∧ -1 ≤ r.2.1.fail ∧ r.2.1.fail ≤ d.fail ∧ -1 ≤ r.2.1.till ∧ r.2.1.till ≤ d.till ∧ r.2.1.secs.length = d.secs.length) ∨
 (r.2.2 = 101 ∧ 0 ≤ d.till ∧ r.2.1.Live ∧ (d.fail = -1 → r.2.1.fail = -1) ∧ ∃ sl half, sl.turn ≤ s.sl.turn + 1 ∧ (SpDisk s.first s.each r.2.1 sl half sure ∨ SpDisk s.first s.each r.2.1 sl half next)) ∨
 (r.2.2 = 100 ∧ 0 ≤ d.fail ∧ r.2.1.dead = true ∧ r.2.1.fail = -1 ∧ r.2.1.till = -1 ∧ r.2.1.sure = [] ∧ ∃ sl half, sl.turn ≤ s.sl.turn + 1 ∧ (SpDisk s.first s.each r.2.1 sl half sure ∨ SpDisk s.first s.each r.2.1 sl half next))
theorem SpEither.ex {F each : Nat} {d : Dev} {sl : Sl} {half : Nat} {sure : List (List UInt8)} {m : List UInt8} {half' : Nat} {next : List (List UInt8)} (h : SpEither F each d sl half sure (sl.next m) half' next) :
  ∃ sl2 half2, sl2.turn ≤ sl.turn + 1 ∧ (SpDisk F each d sl2 half2 sure ∨ SpDisk F each d sl2 half2 next) := by
 rcases h with h | h
 ·exact ⟨sl, half, by omega, .inl h⟩
 ·exact ⟨_, half', Nat.le_refl _, .inr h⟩
theorem SpInv.row_now {s : Sp} {d : Dev} {q : List Blk} {now sure : List (List UInt8)} (h : SpInv s d q now sure) : (d.bytesAt (s.first + s.half * s.each)).take (recs now).length = recs now := by
 have h1 := h.st.rows
 rw [h.finE, h.stf] at h1
 exact h1
theorem SpInv.fits {s : Sp} {d : Dev} {q : List Blk} {now sure : List (List UInt8)} (h : SpInv s d q now sure) : (recs now).length ≤ 128 * s.each := by
 have h1 := h.st.wf.fin
 rw [h.finE, h.stm] at h1
 exact h1
theorem SpInv.rowqF {s : Sp} {d : Dev} {q : List Blk} {now sure : List (List UInt8)} (h : SpInv s d q now sure) : (q.drop (s.first + s.half * s.each)).flatten.take (recs sure).length = recs sure := by
 have h1 := h.rowq
 rw [h.stf] at h1
 exact h1
theorem SpInv.flush {s : Sp} {d : Dev} {q : List Blk} {now sure : List (List UInt8)} (h : SpInv s d q now sure) (hf : -1 ≤ d.fail) (ht : -1 ≤ d.till) (ht1 : s.sl.turn + 1 ≤ 1000000) :
  FlEnds s d sure now (s.flush d) ∧ d.works ≤ (s.flush d).2.1.works ∧ (s.flush d).2.1.works ≤ d.works + 3 ∧ (s.flush d).2.1.keep = d.keep := by
 have hw : s.wrong d = false := by unfold Sp.wrong; rw [h.ok, h.live.dead]; rfl
 unfold Sp.flush
 rw [hw]
 simp only [Bool.false_eq_true, if_false]
 cases ha : s.added with
 | false =>
  simp only [if_true]
  have e := h.added ha
  have h2 := h
  rw [e] at h2
  rw [e]
  exact ⟨.inl ⟨rfl, ⟨q, h2⟩, by show s.sl.turn ≤ _; omega, rfl, rfl, rfl, hf, Int.le_refl _, ht, Int.le_refl _, rfl⟩, Int.le_refl _, by show d.works ≤ _; omega, by first | rfl | trivial⟩
 | true =>
  simp only [Bool.true_eq_false, if_false]
  rw [h.finE, h.many]
  obtain ⟨k1, k2, k3, k4⟩ := save_any (next := now) (half' := s.half) h.live hf ht h.qs h.qsize h.ok h.disk h.slq h.rowqF ht1 h.disk.man.le h.st.small h.fits h.row_now
  obtain ⟨R, hR⟩ : ∃ R, s.save d (manB s.half (recs now).length now.length) = R := ⟨_, rfl⟩
  rw [hR] at k1 k2 k3 k4 ⊢
  refine ⟨?_, k2, k3, k4⟩
  rcases k1 with ⟨e0, e1, e2, e3, e4, e5, e6, e7, e8, e9, e10⟩ | ⟨e0, e1, e2, e3, e4⟩ | ⟨e0, e1, e2, e3, e4, e5, e6⟩
  ·refine .inl ⟨e0, ⟨R.2.1.secs, ?_⟩, ?_, ?_, ?_, ?_, e7, e8, e9, e10, e6⟩
   ·simp only [e1, e0]
    have hby : R.2.1.bytesAt s.st.first = d.bytesAt s.st.first := by
     unfold Dev.bytesAt
     congr 1
     apply List.ext_getElem?
     intro i
     rw [List.getElem?_drop, List.getElem?_drop, e5 _ (by have := h.stf; omega)]
    have hst : SInv s.st R.2.1 now := ⟨⟨h.st.wf.one, by rw [e6]; exact h.st.wf.there, h.st.wf.fin, h.st.wf.last⟩, by rw [hby]; exact h.st.last, h.st.small, by rw [hby]; exact h.st.rows⟩
    refine ⟨e2, e3, e2.size, rfl, e4, fun i _ => rfl, hst, h.stf, h.stm, h.many, ⟨[], by simp⟩, ?_, fun _ => rfl⟩
    show (R.2.1.bytesAt s.st.first).take _ = _
    rw [hby, h.stf]
    exact h.row_now
   ·simp only [e1]; exact Nat.le_refl _
   ·simp only [e1]; rfl
   ·simp only [e1]
   ·simp only [e1]
  ·exact .inr (.inl ⟨e0, e1, e2, e3, e4.ex⟩)
  ·exact .inr (.inr ⟨e0, e1, e2, e3, e4, e5, e6.ex⟩)
/-- Sectors beside some are as they were. -/
def Beside (a n : Nat) (X Y : List Blk) : Prop := ∀ i : Nat, i < a ∨ a + n ≤ i → X[i]? = Y[i]?
theorem allSize_cons (b : List UInt8) (l : List (List UInt8)) : allSize (b :: l) = b.length + 7 + allSize l := by simp [allSize]
theorem allSize_recs (l : List (List UInt8)) : (recs l).length = allSize l := by
 induction l with
 | nil => rfl
 | cons b l ih => rw [recs_cons, List.length_append, ih, length_recB, allSize_cons]
/-- What many Appends leave. -/
structure AsOut (s : St) (d : Dev) (l m : List (List UInt8)) (r : St × Dev × Int) : Prop where
 works : d.works ≤ r.2.1.works ∧ r.2.1.works ≤ d.works + 2 * allSize m
 keep : r.2.1.keep = d.keep
 ways : (r.2.2 = 0 ∧ r.2.1.Live ∧ SInv r.1 r.2.1 (l ++ m) ∧ r.1.first = s.first ∧ r.1.many = s.many ∧ Beside s.first s.many r.2.1.secs d.secs ∧ r.2.1.secs.length = d.secs.length ∧ (∀ q, d.Sure q → r.2.1.Sure q) ∧ -1 ≤ r.2.1.fail ∧ r.2.1.fail ≤ d.fail ∧ -1 ≤ r.2.1.till ∧ r.2.1.till ≤ d.till) ∨
  (r.2.2 = 101 ∧ 0 ≤ d.till ∧ r.2.1.Live ∧ Beside s.first s.many r.2.1.secs d.secs ∧ r.2.1.secs.length = d.secs.length ∧ (∀ q, d.Sure q → r.2.1.Sure q) ∧ r.2.1.till = 0 ∧ (d.fail = -1 → r.2.1.fail = -1)) ∨
  (r.2.2 = 100 ∧ 0 ≤ d.fail ∧ r.2.1.dead = true ∧ r.2.1.fail = -1 ∧ r.2.1.till = -1 ∧ r.2.1.sure = [] ∧ ∃ X, X.length = d.secs.length ∧ (∀ b ∈ X, b.length = 128) ∧ Beside s.first s.many X d.secs ∧ ∀ q, d.Sure q → Mixed r.2.1.secs X q)
theorem Partly.beside {s : St} {d : Dev} {X : List Blk} (h : Partly s d X) (hf : s.fin ≤ 128 * s.many) : Beside s.first s.many X d.secs := fun i hi => by
 by_cases hm : i < s.first + s.fin / 128 ∨ s.first + s.many ≤ i
 ·exact h.rest i hm
 ·omega
theorem SInv.appends_any : ∀ (m : List (List UInt8)) {s : St} {d : Dev} {l : List (List UInt8)} (_ : SInv s d l) (_ : d.Live) (_ : -1 ≤ d.fail) (_ : -1 ≤ d.till) (_ : Small m) (_ : s.fin + allSize m ≤ 128 * s.many), AsOut s d l m (s.appends d m) := by
 intro m
 induction m with
 | nil =>
  intro s d l h hd hf ht _ _
  exact ⟨⟨Int.le_refl _, by show d.works ≤ _; simp [allSize]⟩, rfl, .inl ⟨rfl, hd, by rw [List.append_nil]; exact h, rfl, rfl, fun _ _ => rfl, rfl, fun q hq => hq, hf, Int.le_refl _, ht, Int.le_refl _⟩⟩
 | cons b m ih =>
  intro s d l h hd hf ht hsm hr
  rw [allSize_cons] at hr
  obtain ⟨h1, h2, h3⟩ := h.append_any hd hf ht (b := b) (hsm b List.mem_cons_self) (by omega)
  rw [St.appends]
  obtain ⟨R, hR⟩ : ∃ R, s.append d b = R := ⟨_, rfl⟩
  rw [hR] at h1 h2 h3 ⊢
  rcases h3 with ⟨e0, e1, e2, e3, e4, e5, e6, e7, e8, e9, e10, e11⟩ | ⟨e0, e1, e2, e3, e4, e5, e6, e7, e8⟩ | ⟨e0, e1, e2, e3, e4, e5, e6, X, e7, e8⟩
  ·rw [if_pos e0]
   obtain ⟨g1, g2, g3⟩ := ih e2 e1 e8 e10 (fun x hx => hsm x (List.mem_cons_of_mem _ hx)) (by rw [e5, e4]; omega)
   have hb := e6.beside h.wf.fin
   refine ⟨⟨by omega, by rw [allSize_cons]; omega⟩, g2.trans h2, ?_⟩
   rcases g3 with ⟨n0, n1, n2, n3, n4, n5, n6, n7, n8, n9, n10, n11⟩ | ⟨n0, n1, n2, n3, n4, n5, n6, n7⟩ | ⟨n0, n1, n2, n3, n4, n5, Y, n6, n7, n8, n9⟩
   ·refine .inl ⟨n0, n1, by simpa using n2, n3.trans e3, n4.trans e4, fun i hi => (n5 i (by rw [e3, e4]; exact hi)).trans (hb i hi), n6.trans e6.len, fun q hq => n7 q (e7 q hq), n8, by omega, n10, by omega⟩
   ·exact .inr (.inl ⟨n0, by omega, n2, fun i hi => (n3 i (by rw [e3, e4]; exact hi)).trans (hb i hi), n4.trans e6.len, fun q hq => n5 q (e7 q hq), n6, fun e => n7 (by omega)⟩)
   ·exact .inr (.inr ⟨n0, by omega, n2, n3, n4, n5, Y, n6.trans e6.len, n7, fun i hi => (n8 i (by rw [e3, e4]; exact hi)).trans (hb i hi), fun q hq => n9 q (e7 q hq)⟩)
  ·rw [if_neg (by rw [e0]; decide)]
   exact ⟨⟨h1.1, by rw [allSize_cons]; omega⟩, h2, .inr (.inl ⟨e0, e2, e3, e5.beside h.wf.fin, e5.len, e6, e7, e8⟩)⟩
  ·rw [if_neg (by rw [e0]; decide)]
   exact ⟨⟨h1.1, by rw [allSize_cons]; omega⟩, h2, .inr (.inr ⟨e0, e2, e3, e4, e5, e6, X, e7.len, e7.size, e7.beside h.wf.fin, e8⟩)⟩
/-- The other half, empty. -/
theorem SpDisk.empty {s : Sp} {d : Dev} {l : List (List UInt8)} (h : SpDisk s.first s.each d s.sl s.half l) : SInv (s.empty (1 - s.half)) d [] := by
 have h1 := h.there; have h2 := h.man.le; have h3 := h.one
 refine ⟨⟨h3, ?_, Nat.zero_le _, rfl⟩, rfl, fun b hb => by simp at hb, by simp [Sp.empty, recs_nil]⟩
 show s.first + (1 - s.half) * s.each + s.each ≤ d.secs.length
 rcases (by omega : s.half = 0 ∨ s.half = 1) with e | e <;> rw [e] <;> simp <;> omega
/-- Where the other half alone is written, the one that counts is as it was. -/
theorem other_half {F each half : Nat} (hh : half ≤ 1) {X Y : List Blk} (hX : ∀ b ∈ X, b.length = 128) (hY : ∀ b ∈ Y, b.length = 128) (hb : Beside (F + (1 - half) * each) each X Y) {n : Nat} (hn : n ≤ 128 * each) :
  (X.drop (F + half * each)).flatten.take n = (Y.drop (F + half * each)).flatten.take n := by
 refine flatten_head (n := each) (fun b h => hX b (List.mem_of_mem_drop h)) (fun b h => hY b (List.mem_of_mem_drop h)) (fun i hi => ?_) hn
 rw [List.getElem?_drop, List.getElem?_drop]
 refine hb _ ?_
 rcases (by omega : half = 0 ∨ half = 1) with e | e <;> rw [e] <;> simp <;> omega
theorem SpInv.replace {s : Sp} {d : Dev} {q : List Blk} {now sure : List (List UInt8)} (h : SpInv s d q now sure) (hf : -1 ≤ d.fail) (ht : -1 ≤ d.till) (ht1 : s.sl.turn + 1 ≤ 1000000) {l : List (List UInt8)} (hl : Small l) (hr : allSize l ≤ 128 * s.each) :
  FlEnds s d sure l (s.replace d l) ∧ d.works ≤ (s.replace d l).2.1.works ∧ (s.replace d l).2.1.works ≤ d.works + 2 * allSize l + 3 ∧ (s.replace d l).2.1.keep = d.keep := by
 have hw : s.wrong d = false := by unfold Sp.wrong; rw [h.ok, h.live.dead]; rfl
 have hbig : l.any (fun b => decide (16384 < b.length)) = false := by
  rw [List.any_eq_false]
  intro b hb
  have := hl b hb
  simp
  omega
 unfold Sp.replace
 rw [hw, hbig]
 simp only [Bool.false_eq_true, if_false]
 rw [if_neg (by omega)]
 have hE := h.disk.empty
 have hh := h.disk.man.le
 have hF := h.disk.slF
 obtain ⟨a1, a2, a3⟩ := SInv.appends_any l hE h.live hf ht hl (by show 0 + _ ≤ 128 * s.each; omega)
 obtain ⟨R, hR⟩ : ∃ R, (s.empty (1 - s.half)).appends d l = R := ⟨_, rfl⟩
 rw [hR] at a1 a2 a3 ⊢
 have slots : ∀ {X : List Blk}, Beside (s.empty (1 - s.half)).first (s.empty (1 - s.half)).many X d.secs → ∀ i : Nat, i = s.sl.first ∨ i = s.sl.first + 1 → X[i]? = d.secs[i]? := fun hb i hi => hb i (.inl (by show i < s.first + _; omega))
 have keeps : ∀ {X : List Blk}, (∀ b ∈ X, b.length = 128) → Beside (s.empty (1 - s.half)).first (s.empty (1 - s.half)).many X d.secs → (X.drop (s.first + s.half * s.each)).flatten.take (recs sure).length = recs sure := fun hX hb => by
  rw [other_half hh hX h.live.size hb h.disk.fits]
  exact h.disk.rows
 rcases a3 with ⟨n0, n1, n2, n3, n4, n5, n6, n7, n8, n9, n10, n11⟩ | ⟨n0, n1, n2, n3, n4, n5, n6, n7⟩ | ⟨n0, n1, n2, n3, n4, n5, X, n6, n7, n8, n9⟩
 ·rw [if_neg (by rw [n0]; decide)]
  simp only [List.nil_append] at n2
  have hfe := n2.fin n1.size
  have hd1 : SpDisk s.first s.each R.2.1 s.sl s.half sure := h.disk.same n1.size n6 (slots n5) (keeps n1.size n5)
  have hrow : (R.2.1.bytesAt (s.first + (1 - s.half) * s.each)).take (recs l).length = recs l := by
   have h1 := n2.rows
   rw [hfe, n3] at h1
   exact h1
  rw [hfe]
  obtain ⟨k1, k2, k3, k4⟩ := save_any (s := s) (d := R.2.1) (q := q) (sure := sure) (next := l) (half' := 1 - s.half) n1 n8 n10 (n7 q h.qs) h.qsize h.ok hd1 (fun i hi => (h.slq i hi).trans (slots n5 i hi).symm) h.rowqF ht1 (by omega) hl (by rw [allSize_recs]; exact hr) hrow
  obtain ⟨V, hV⟩ : ∃ V, s.save R.2.1 (manB (1 - s.half) (recs l).length l.length) = V := ⟨_, rfl⟩
  rw [hV] at k1 k2 k3 k4 ⊢
  have hwk : d.works ≤ V.2.1.works ∧ V.2.1.works ≤ d.works + 2 * allSize l + 3 := by omega
  rcases k1 with ⟨e0, e1, e2, e3, e4, e5, e6, e7, e8, e9, e10⟩ | ⟨e0, e1, e2, e3, e4⟩ | ⟨e0, e1, e2, e3, e4, e5, e6⟩
  ·rw [if_neg (by rw [e0]; decide)]
   have hby : V.2.1.bytesAt R.1.first = R.2.1.bytesAt R.1.first := by
    unfold Dev.bytesAt
    congr 1
    apply List.ext_getElem?
    intro i
    rw [List.getElem?_drop, List.getElem?_drop, e5 _ (by rw [n3]; show s.first ≤ s.first + _ + i; omega)]
   have hst : SInv R.1 V.2.1 l := ⟨⟨n2.wf.one, by rw [e6]; exact n2.wf.there, n2.wf.fin, n2.wf.last⟩, by rw [hby]; exact n2.last, hl, by rw [hby]; exact n2.rows⟩
   refine ⟨.inl ⟨rfl, ⟨V.2.1.secs, ?_⟩, ?_, ?_, ?_, ?_, e7, by show V.2.1.fail ≤ _; omega, e9, by show V.2.1.till ≤ _; omega, by show V.2.1.secs.length = _; rw [e6, n6]⟩, hwk.1, hwk.2, k4.trans a2⟩
   ·simp only [e1]
    refine ⟨e2, e3, e2.size, rfl, e4, fun i _ => rfl, hst, n3, n4, rfl, ⟨[], by simp⟩, ?_, fun _ => rfl⟩
    show (V.2.1.bytesAt R.1.first).take _ = _
    rw [hby, n3]
    exact hrow
   ·simp only [e1]; exact Nat.le_refl _
   ·simp only [e1]; rfl
   ·simp only [e1]
   ·simp only [e1]
  ·rw [if_pos (by rw [e0]; decide)]
   exact ⟨.inr (.inl ⟨e0, by omega, e2, fun e => e3 (by omega), e4.ex⟩), hwk.1, hwk.2, k4.trans a2⟩
  ·rw [if_pos (by rw [e0]; decide)]
   exact ⟨.inr (.inr ⟨e0, by omega, e2, e3, e4, e5, e6.ex⟩), hwk.1, hwk.2, k4.trans a2⟩
 ·rw [if_pos (by rw [n0]; decide)]
  exact ⟨.inr (.inl ⟨n0, n1, n2, n7, s.sl, s.half, by omega, .inl (h.disk.same n2.size n4 (slots n3) (keeps n2.size n3))⟩), a1.1, by show R.2.1.works ≤ _; omega, a2⟩
 ·rw [if_pos (by rw [n0]; decide)]
  exact ⟨.inr (.inr ⟨n0, n1, n2, n3, n4, n5, s.sl, s.half, by omega, .inl (h.disk.mixed (n9 q h.qs) n7 h.qsize n6 (fun i hi => ⟨slots n8 i hi, h.slq i hi⟩) (keeps n7 n8) h.rowqF)⟩), a1.1, by show R.2.1.works ≤ _; omega, a2⟩
end Go.Proofs.YtbnflbkaogpnbaaGreat
namespace Go.Proofs.YtbnflbkaogpnbaaGreat
set_option linter.unusedVariables false
open Go.RowKit
theorem be4_cells {n : Nat} (h : n < 4294967296) : #[Value.int .u8 ((n : Int) / 16777216), .int .u8 ((n : Int) / 65536 % 256), .int .u8 ((n : Int) / 256 % 256), .int .u8 ((n : Int) % 256)] = (u8vs (be4 n)).toArray := by
 have e1 : (n : Int) / 16777216 = ((n / 16777216 % 256 : Nat) : Int) := by omega
 have e2 : (n : Int) / 65536 % 256 = ((n / 65536 % 256 : Nat) : Int) := by omega
 have e3 : (n : Int) / 256 % 256 = ((n / 256 % 256 : Nat) : Int) := by omega
 have e4 : (n : Int) % 256 = ((n % 256 : Nat) : Int) := by omega
 rw [e1, e2, e3, e4]
 rfl
theorem be4_sl (w : World) {n : Nat} (h : n < 4294967296) (H : Nat) (hH : w.heap.size = H) : SlAt (w.alloc (.cells #[Value.int .u8 ((n : Int) / 16777216), .int .u8 ((n : Int) / 65536 % 256), .int .u8 ((n : Int) / 256 % 256), .int .u8 ((n : Int) % 256)] 5)) (some ⟨H, 0, none⟩) 4 4 (u8vs (be4 n)) := by
 subst hH
 rw [be4_cells h]
 exact SlAt.blk (heap_alloc_new _ _) rfl (by unfold maxLen; omega)
set_option maxHeartbeats 2000000 in
set_option maxRecDepth 100000 in
theorem manBytes_any (w : World) (half fin many : Nat) (h1 : half ≤ 1) (h2 : fin < 4294967296) (h3 : many < 4294967296) :
  Calls Tryz.prog 45 #[.agg #[.int .i64 half, .int .i64 fin, .int .i64 many]] w (ClonePost w 5 9 (u8vs (manB half fin many))) := by
 obtain ⟨W, hW⟩ : ∃ W, ((w.alloc (.cells #[.int .i64 half, .int .i64 fin, .int .i64 many] 55)).alloc (.cells #[.int .u8 half] 5)).alloc (.cells #[.int .i64 fin, .int .i64 many] 3) = W := ⟨_, rfl⟩
 have hkW : Kept [] w W := by rw [← hW]; exact ((Kept.alloc [] _ _).trans (Kept.alloc [] _ _)).trans (Kept.alloc [] _ _)
 have hzW : W.heap.size = w.heap.size + 3 := by rw [← hW]; simp
 have hrow : W.heap[w.heap.size + 2]? = some (.cells #[.int .i64 fin, .int .i64 many] 3 (0, 0)) := by
  rw [← hW]
  have h := heap_alloc_new ((w.alloc (.cells #[.int .i64 half, .int .i64 fin, .int .i64 many] 55)).alloc (.cells #[.int .u8 half] 5)) (.cells #[.int .i64 fin, .int .i64 many] 3)
  simp only [World.size_alloc] at h
  exact h
 have hown : W.ownsRow w.heap.size 5 1 (.slice (some ⟨w.heap.size + 1, 0, none⟩) 1 1) 1 (u8vs [UInt8.ofNat half]) := by
  have h : W.heap[w.heap.size + 1]? = some (.cells #[.int .u8 half] 5 (0, 0)) := by
   rw [← hW, Below.heap_alloc _ _ _ (by simp)]
   have h := heap_alloc_new (w.alloc (.cells #[.int .i64 half, .int .i64 fin, .int .i64 many] 55)) (.cells #[.int .u8 half] 5)
   simp only [World.size_alloc] at h
   exact h
  refine ⟨rfl, .inr ⟨w.heap.size + 1, 1, _, rfl, by omega, h, Nat.le_refl _, by unfold maxLen; omega, rfl, ?_⟩⟩
  simp only [u8vs, u8v, List.map_cons, List.map_nil, UInt8.toNat_ofNat', Nat.mod_eq_of_lt (show half < 2 ^ 8 by omega)]
  rfl
 have HZW := Lib.hid hzW
 clear hzW
 go_enter Tryz.func45, Tryz.ntmps45
 go_wp2_with fail
 refine wp_loop_rounds 3 ?_
 rw [rounds_succ]
 clear hW
 have c0 : W.cell? ⟨w.heap.size + 1 + 1, 0, none⟩ = some (.int .i64 fin) := by rw [blk_cell hrow]; rfl
 have c1 : W.cell? ⟨w.heap.size + 1 + 1, 1, none⟩ = some (.int .i64 many) := by rw [blk_cell hrow]; rfl
 go_wp2_with (refine wpList_append_u8 rfl (.tmp 20) (.tmp 32) rfl w.heap.size _ 1 [UInt8.ofNat half] rfl (row_kept hown (Kept.alloc [] W _) (by simp)) _ 4 4 (be4 fin) rfl (be4_sl W h2 _ rfl) (fun e => by cases e) (by omega) (by simp [HZW.out]; omega) ?_; intro A1 d1 w1 hown1 hgrow1 hA1)
 have hk1 : Kept [w.heap.size + 1] W w1 := (Kept.alloc [w.heap.size + 1] W _).trans (Kept.grown (F := [w.heap.size + 1]) hgrow1 (fun j e => by cases e; simp))
 have hrow1 := (hk1.block _ (World.lt_of_heap hrow) (by simp)).trans hrow
 have c1' : w1.cell? ⟨w.heap.size + 1 + 1, 1, none⟩ = some (.int .i64 many) := by rw [blk_cell hrow1]; rfl
 have hkw1 : Kept [] w w1 := hkW.trans' hk1 (by simp)
 have hz1 := hkw1.size
 have hb1 := own_block hown1
 clear c0 c1 hown hgrow1 hk1 hkW hrow hrow1
 rw [rounds_succ]
 go_wp2_with (refine wpList_append_u8 rfl (.tmp 20) (.tmp 32) rfl w.heap.size _ 5 ([UInt8.ofNat half] ++ be4 fin) rfl (row_kept hown1 (Kept.alloc [] w1 _) (by simp)) _ 4 4 (be4 many) rfl (be4_sl w1 h3 _ rfl) (fun e => by cases e) (by omega) (by simp; omega) ?_; intro A2 d2 w2 hown2 hgrow2 hA2)
 rw [rounds_succ]
 go_wp2_with fail
 go_ret
 replace hgrow2 : (w1.alloc (.cells #[Value.int .u8 ((many : Int) / 16777216), .int .u8 ((many : Int) / 65536 % 256), .int .u8 ((many : Int) / 256 % 256), .int .u8 ((many : Int) % 256)] 5)).grownBy w2 (Value.slice A1 5 d1).ownBlock := hgrow2
 have hk2 : Kept [] w w2 := (hkw1.trans (Kept.alloc [] w1 _)).trans' (Kept.grown (F := (Value.slice A1 5 d1).ownBlock.toList) hgrow2 (fun j e => by rw [e]; simp)) (fun i hi => .inr (by
  simp only [Option.mem_toList] at hi
  cases A1 with
  | none => cases hi
  | some p =>
   obtain ⟨_, _, e2, _, h9⟩ := SlAt.of_own hown1
   cases e2
   have := h9 p rfl
   rw [this.1] at hi
   cases hi
   exact this.2))
 have e5 : [UInt8.ofNat half] ++ be4 fin ++ be4 many = manB half fin many := by simp [manB]
 rw [e5] at hown2
 exact ClonePost.mk hown2 (hk2.below (Nat.le_refl _) (by simp))
end Go.Proofs.YtbnflbkaogpnbaaGreat
namespace Go.Proofs.YtbnflbkaogpnbaaGreat
set_option linter.unusedVariables false
open Go.RowKit
/-- In w, at block y, the log s on the device d at a; its slots at zs, its strip at zt; their blocks. -/
structure SpP (w : World) (y zs zt a : Nat) (fp slp stp : List Nat) (s : Sp) (d : Dev) : Prop where
 head : w.heap[y]? = some (.cells #[.pointer (some ⟨a, 0, none⟩), .pointer (some ⟨zs, 0, none⟩), .pointer (some ⟨zt, 0, none⟩), .int .i64 s.first, .int .i64 s.each, .int .i64 s.half, .int .i64 s.many, .bool s.added, .bool s.broken] 33 (0, 0))
 dv : Dv w a fp d
 sl : TwAt w zs a slp s.sl
 st : StAt w zt a stp s.st
 y1 : y ∉ fp
 y2 : y ∉ slp
 y3 : y ∉ stp
 d1 : ∀ j ∈ slp, j ∉ fp
 d2 : ∀ j ∈ stp, j ∉ fp
 d3 : ∀ j ∈ slp, j ∉ stp
section
variable {w w' : World} {y zs zt a : Nat} {fp slp stp : List Nat} {s : Sp} {d : Dev}
theorem SpP.yl (h : SpP w y zs zt a fp slp stp s d) : y < w.heap.size := World.lt_of_heap h.head
theorem SpP.kept {G : List Nat} (h : SpP w y zs zt a fp slp stp s d) (hk : Kept G w w') (g0 : y ∉ G) (g1 : ∀ j ∈ fp, j ∉ G) (g2 : ∀ j ∈ slp, j ∉ G) (g3 : ∀ j ∈ stp, j ∉ G) : SpP w' y zs zt a fp slp stp s d :=
 ⟨(hk.block y h.yl g0).trans h.head, h.dv.kept hk g1, h.sl.kept hk g2, h.st.kept hk g3, h.y1, h.y2, h.y3, h.d1, h.d2, h.d3⟩
theorem SpP.new (h : SpP w y zs zt a fp slp stp s d) (hk : Kept [] w w') : SpP w' y zs zt a fp slp stp s d := h.kept hk (by simp) (by simp) (by simp) (by simp)
/-- A deed of the device. -/
theorem SpP.turnD {fp' : List Nat} {d' : Dev} (h : SpP w y zs zt a fp slp stp s d) (hD : Dv w' a fp' d') (hk : Kept fp w w') (hn : ∀ j ∈ fp', j ∈ fp ∨ w.heap.size ≤ j) : SpP w' y zs zt a fp' slp stp s d' := by
 have fresh : ∀ {j}, j < w.heap.size → j ∉ fp → j ∉ fp' := fun hj hf hm => by
  rcases hn _ hm with e | e
  ·exact hf e
  ·omega
 exact ⟨(hk.block y h.yl h.y1).trans h.head, hD, h.sl.kept hk h.d1, h.st.kept hk h.d2, fresh h.yl h.y1, h.y2, h.y3, fun j hj => fresh (h.sl.lt j hj) (h.d1 j hj), fun j hj => fresh (h.st.lt j hj) (h.d2 j hj), h.d3⟩
/-- A deed of the strip. -/
theorem SpP.turnS {fp' stp' : List Nat} {st' : St} {d' : Dev} (h : SpP w y zs zt a fp slp stp s d) (hD : Dv w' a fp' d') (hS : StAt w' zt a stp' st') (hk : Kept (fp ++ stp) w w') (hn : ∀ j ∈ fp', j ∈ fp ∨ w.heap.size ≤ j) (hm : ∀ j ∈ stp', j ∈ stp ∨ w.heap.size ≤ j) (hd : ∀ j ∈ stp', j ∉ fp') :
  SpP w' y zs zt a fp' slp stp' { s with st := st' } d' := by
 have f1 : ∀ {j}, j < w.heap.size → j ∉ fp → j ∉ fp' := fun hj hf hm => by
  rcases hn _ hm with e | e
  ·exact hf e
  ·omega
 have f2 : ∀ {j}, j < w.heap.size → j ∉ stp → j ∉ stp' := fun hj hf hm' => by
  rcases hm _ hm' with e | e
  ·exact hf e
  ·omega
 exact ⟨(hk.block y h.yl (by simp [h.y1, h.y3])).trans h.head, hD, h.sl.kept hk (fun j hj => by simp [h.d1 j hj, h.d3 j hj]), hS, f1 h.yl h.y1, h.y2, f2 h.yl h.y3, fun j hj => f1 (h.sl.lt j hj) (h.d1 j hj), hd, fun j hj => f2 (h.sl.lt j hj) (h.d3 j hj)⟩
/-- A deed of the slots. -/
theorem SpP.turnL {fp' slp' : List Nat} {sl' : Sl} {d' : Dev} (h : SpP w y zs zt a fp slp stp s d) (hD : Dv w' a fp' d') (hS : TwAt w' zs a slp' sl') (hk : Kept (fp ++ slp) w w') (hn : ∀ j ∈ fp', j ∈ fp ∨ w.heap.size ≤ j) (hm : ∀ j ∈ slp', j ∈ slp ∨ w.heap.size ≤ j) (hd : ∀ j ∈ slp', j ∉ fp') :
  SpP w' y zs zt a fp' slp' stp { s with sl := sl' } d' := by
 have f1 : ∀ {j}, j < w.heap.size → j ∉ fp → j ∉ fp' := fun hj hf hm => by
  rcases hn _ hm with e | e
  ·exact hf e
  ·omega
 have f2 : ∀ {j}, j < w.heap.size → j ∉ slp → j ∉ slp' := fun hj hf hm' => by
  rcases hm _ hm' with e | e
  ·exact hf e
  ·omega
 exact ⟨(hk.block y h.yl (by simp [h.y1, h.y2])).trans h.head, hD, hS, h.st.kept hk (fun j hj => by simp only [List.mem_append, not_or]; exact ⟨h.d2 j hj, fun hm => h.d3 j hm hj⟩), f1 h.yl h.y1, f2 h.yl h.y2, h.y3, hd, fun j hj => f1 (h.st.lt j hj) (h.d2 j hj), fun j hj hm' => by
  rcases hm j hj with e | e
  ·exact h.d3 j e hm'
  ·have := h.st.lt j hm'; omega⟩
/-- The log's own block is written. -/
theorem SpP.put {s' : Sp} (h : SpP w y zs zt a fp slp stp s d) (hk : Kept [y] w w') (e1 : s'.sl = s.sl) (e2 : s'.st = s.st)
  (hh : w'.heap[y]? = some (.cells #[.pointer (some ⟨a, 0, none⟩), .pointer (some ⟨zs, 0, none⟩), .pointer (some ⟨zt, 0, none⟩), .int .i64 s'.first, .int .i64 s'.each, .int .i64 s'.half, .int .i64 s'.many, .bool s'.added, .bool s'.broken] 33 (0, 0))) : SpP w' y zs zt a fp slp stp s' d :=
 ⟨hh, h.dv.kept hk (fun j hj hm => h.y1 (by simp at hm; exact hm ▸ hj)), e1 ▸ h.sl.kept hk (fun j hj hm => h.y2 (by simp at hm; exact hm ▸ hj)), e2 ▸ h.st.kept hk (fun j hj hm => h.y3 (by simp at hm; exact hm ▸ hj)), h.y1, h.y2, h.y3, h.d1, h.d2, h.d3⟩
theorem SpP.cells (h : SpP w y zs zt a fp slp stp s d) : w.cell? ⟨y, 0, none⟩ = some (.pointer (some ⟨a, 0, none⟩)) ∧ w.cell? ⟨y, 1, none⟩ = some (.pointer (some ⟨zs, 0, none⟩)) ∧ w.cell? ⟨y, 2, none⟩ = some (.pointer (some ⟨zt, 0, none⟩)) ∧
  w.cell? ⟨y, 3, none⟩ = some (.int .i64 s.first) ∧ w.cell? ⟨y, 4, none⟩ = some (.int .i64 s.each) ∧ w.cell? ⟨y, 5, none⟩ = some (.int .i64 s.half) ∧ w.cell? ⟨y, 6, none⟩ = some (.int .i64 s.many) ∧ w.cell? ⟨y, 7, none⟩ = some (.bool s.added) ∧ w.cell? ⟨y, 8, none⟩ = some (.bool s.broken) ∧ ∀ i, w.frozen? ⟨y, i, none⟩ = false :=
 ⟨blk_cell h.head 0, blk_cell h.head 1, blk_cell h.head 2, blk_cell h.head 3, blk_cell h.head 4, blk_cell h.head 5, blk_cell h.head 6, blk_cell h.head 7, blk_cell h.head 8, fun i => blk_frozen h.head i⟩
end
/-- The log s on the device d, its blocks among F. -/
structure SpAt (w : World) (y a : Nat) (F : List Nat) (s : Sp) (d : Dev) : Prop where
 parts : ∃ zs zt fp slp stp, SpP w y zs zt a fp slp stp s d ∧ ∀ j, j = y ∨ j ∈ fp ∨ j ∈ slp ∨ j ∈ stp → j ∈ F
 lt : ∀ j ∈ F, j < w.heap.size
theorem SpP.at_ {w : World} {y zs zt a : Nat} {fp slp stp : List Nat} {s : Sp} {d : Dev} (h : SpP w y zs zt a fp slp stp s d) : SpAt w y a (y :: (fp ++ slp ++ stp)) s d :=
  ⟨⟨zs, zt, fp, slp, stp, h, fun j hj => by simpa [or_assoc] using hj⟩, fun j hj => by
    simp only [List.mem_cons, List.mem_append] at hj
    rcases hj with rfl | (hj | hj) | hj
    · exact h.yl
    · exact h.dv.lt j hj
    · exact h.sl.lt j hj
    · exact h.st.lt j hj⟩
theorem SpAt.new {w w' : World} {y a : Nat} {F : List Nat} {s : Sp} {d : Dev} (h : SpAt w y a F s d) (hk : Kept [] w w') : SpAt w' y a F s d := by
 obtain ⟨zs, zt, fp, slp, stp, h1, h2⟩ := h.parts
 exact ⟨⟨zs, zt, fp, slp, stp, h1.new hk, h2⟩, fun j hj => Nat.lt_of_lt_of_le (h.lt j hj) hk.size⟩
/-- A deed of a log: what it answers; what it is behind. -/
def SpPost (w : World) (y a : Nat) (F : List Nat) (s : Sp) (d : Dev) (n : Int) (e : Ending) (w' : World) : Prop :=
 e = .returned (.int .i64 n) ∧ ∃ F', SpAt w' y a F' s d ∧ Step F F' w w'
/-- The same with the parts at hand. -/
def SpPP (w : World) (y zs zt a : Nat) (fp slp stp : List Nat) (s : Sp) (d : Dev) (n : Int) (e : Ending) (w' : World) : Prop :=
 e = .returned (.int .i64 n) ∧ ∃ zt' fp' slp' stp', SpP w' y zs zt' a fp' slp' stp' s d ∧ Kept (y :: (fp ++ slp ++ stp)) w w' ∧ (∀ j ∈ fp', j ∈ fp ∨ w.heap.size ≤ j) ∧ (∀ j ∈ slp', j ∈ slp ∨ w.heap.size ≤ j) ∧ ∀ j ∈ stp', j ∈ stp ∨ w.heap.size ≤ j
theorem SpAt.deed {w : World} {y a : Nat} {F : List Nat} {s s' : Sp} {d d' : Dev} {n : Int} {f : FuncId} {args : Array Value} (h : SpAt w y a F s d) (hc : ∀ zs zt fp slp stp, SpP w y zs zt a fp slp stp s d → (∀ j ∈ fp, j ∈ F) → Calls Tryz.prog f args w (SpPP w y zs zt a fp slp stp s' d' n)) :
  Calls Tryz.prog f args w (SpPost w y a F s' d' n) := by
 obtain ⟨zs, zt, fp, slp, stp, h1, h2⟩ := h.parts
 refine (hc zs zt fp slp stp h1 (fun j hj => h2 j (.inr (.inl hj)))).mono ?_
 rintro e w' ⟨rfl, zt', fp', slp', stp', g1, g2, g3, g4, g5⟩
 refine ⟨rfl, _, g1.at_, g2.mono (fun i hi => .inl (h2 i (by simpa [or_assoc] using hi))), fun j hj => ?_⟩
 simp only [List.mem_cons, List.mem_append] at hj
 rcases hj with rfl | (hj | hj) | hj
 ·exact .inl (h2 _ (.inl rfl))
 ·rcases g3 j hj with e | e
  ·exact .inl (h2 j (.inr (.inl e)))
  ·exact .inr e
 ·rcases g4 j hj with e | e
  ·exact .inl (h2 j (.inr (.inr (.inl e))))
  ·exact .inr e
 ·rcases g5 j hj with e | e
  ·exact .inl (h2 j (.inr (.inr (.inr e))))
  ·exact .inr e
/-- What is told of what is wrong. -/
def WrPost (w : World) (y zs zt a : Nat) (fp slp stp : List Nat) (s : Sp) (d : Dev) (n : Int) (e : Ending) (w' : World) : Prop :=
 e = .returned (.int .i64 n) ∧ SpP w' y zs zt a fp slp stp s d ∧ Kept [y] w w'
section
variable {w : World} {y zs zt a : Nat} {fp slp stp : List Nat} {s : Sp} {d : Dev}
set_option maxHeartbeats 1000000 in
theorem spoolWrong_any (h : SpP w y zs zt a fp slp stp s d) : Calls Tryz.prog 17 #[.pointer (some ⟨y, 0, none⟩)] w (WrPost w y zs zt a fp slp stp (s.touch d) d (if s.wrong d then 100 else 0)) := by
 have cd := dead_dv h.dv
 have hk := Kept.setCell (F := [y]) (w := w) (p := ⟨y, 8, none⟩) (by simp) (.bool (s.broken || d.dead))
 have hP : SpP (w.setCell ⟨y, 8, none⟩ (.bool (s.broken || d.dead))) y zs zt a fp slp stp (s.touch d) d := h.put hk rfl rfl (heap_set h.head 8 _)
 have fin : ∀ e, e = .returned (.int .i64 (if s.wrong d then 100 else 0)) → WrPost w y zs zt a fp slp stp (s.touch d) d (if s.wrong d then 100 else 0) e (w.setCell ⟨y, 8, none⟩ (.bool (s.broken || d.dead))) := fun e he =>
  ⟨he, hP, hk⟩
 obtain ⟨c0, c1, c2, c3, c4, c5, c6, c7, c8, cf⟩ := h.cells
 unfold Sp.wrong at fin ⊢
 cases hb : s.broken with
 | true =>
  rw [hb] at c8 fin
  simp only [Bool.true_or, if_true] at fin ⊢
  have FIN := Lib.hid fin
  clear hb hP hk fin c1 c2 c3 c4 c5 c6 c7
  go_enter Tryz.func17, Tryz.ntmps17
  go_wp2_with fail
  go_ret
  exact FIN.out _ rfl
 | false =>
  rw [hb] at c8 fin
  simp only [Bool.false_or] at fin ⊢
  cases hd : d.dead with
  | true =>
   rw [hd] at cd fin
   have FIN := Lib.hid fin
   clear hb hd hP hk fin c1 c2 c3 c4 c5 c6 c7
   go_enter Tryz.func17, Tryz.ntmps17
   go_wp2_with fail
   refine cd.mono ?_
   rintro e w1 ⟨rfl, rfl⟩
   go_wp2_with fail
   go_ret
   exact FIN.out _ rfl
  | false =>
   rw [hd] at cd fin
   have FIN := Lib.hid fin
   clear hb hd hP hk fin c1 c2 c3 c4 c5 c6 c7
   go_enter Tryz.func17, Tryz.ntmps17
   go_wp2_with fail
   refine cd.mono ?_
   rintro e w1 ⟨rfl, rfl⟩
   go_wp2_with fail
   go_ret
   exact FIN.out _ rfl
end
end Go.Proofs.YtbnflbkaogpnbaaGreat
