/- The log: what its deeds leave. No program in sight. -/
import Derived.Test.YtbnflbkaogpnbaaJ0
namespace Go.Proofs.Ytbnflbkaogpnbaa
set_option linter.unusedVariables false

theorem drop_set_lt {l : List Blk} {j n : Nat} (h : j < n) (v : Blk) : (l.set j v).drop n = l.drop n := by
  apply List.ext_getElem?
  intro i
  rw [List.getElem?_drop, List.getElem?_drop, List.getElem?_set_ne (by omega)]

theorem recs_len_append (l m : List (List UInt8)) : (recs (l ++ m)).length = (recs l).length + (recs m).length := by rw [recs_append, List.length_append]

theorem SpInv.finE {s : Sp} {d : Dev} {q : List Blk} {now sure : List (List UInt8)} (h : SpInv s d q now sure) : s.st.fin = (recs now).length := h.st.fin h.live.size

/-- Behind a part of an Append. -/
theorem SpInv.partly {s : Sp} {d : Dev} {q : List Blk} {now sure : List (List UInt8)} (h : SpInv s d q now sure) {X : List Blk} (hP : Partly s.st d X) :
    (∀ i : Nat, i = s.sl.first ∨ i = s.sl.first + 1 → X[i]? = d.secs[i]?) ∧ (X.drop (s.first + s.half * s.each)).flatten.take (recs sure).length = recs sure := by
  have hF := h.disk.slF
  have hst := h.stf
  refine ⟨fun i hi => hP.rest i (.inl (by omega)), ?_⟩
  obtain ⟨m, hm⟩ := h.pre
  have hfe := h.finE
  rw [hm, recs_len_append] at hfe
  have h1 := congrArg (List.take (recs sure).length) hP.rows
  rw [List.take_take, List.take_take, Nat.min_eq_left (by omega)] at h1
  rw [← hst, h1, hst]
  exact h.disk.rows

/-- What an Append leaves of a log. -/
def ApEnds (s : Sp) (d : Dev) (q : List Blk) (now sure : List (List UInt8)) (b : List UInt8) (r : Sp × Dev × Int) : Prop :=
  (r.2.2 = 0 ∧ SpInv r.1 r.2.1 q (now ++ [b]) sure ∧ r.1.sl = s.sl ∧ r.1.first = s.first ∧ r.1.each = s.each ∧ r.1.half = s.half ∧ -1 ≤ r.2.1.fail ∧ r.2.1.fail ≤ d.fail ∧ -1 ≤ r.2.1.till ∧ r.2.1.till ≤ d.till ∧ s.st.fin + (b.length + 7) ≤ 128 * s.each) ∨
  (r.2.2 = 101 ∧ SpInv r.1 r.2.1 q now sure ∧ r.1 = s ∧ ((r.2.1 = d ∧ 128 * s.each < s.st.fin + (b.length + 7)) ∨ (0 ≤ d.till ∧ r.2.1.till = 0)) ∧ (d.fail = -1 → r.2.1.fail = -1)) ∨
  (r.2.2 = 100 ∧ 0 ≤ d.fail ∧ r.2.1.dead = true ∧ r.2.1.fail = -1 ∧ r.2.1.till = -1 ∧ r.2.1.sure = [] ∧ SpDisk s.first s.each r.2.1 s.sl s.half sure)

theorem SpInv.append {s : Sp} {d : Dev} {q : List Blk} {now sure : List (List UInt8)} (h : SpInv s d q now sure) (hf : -1 ≤ d.fail) (ht : -1 ≤ d.till) {b : List UInt8} (hb : b.length ≤ 16384) :
    ApEnds s d q now sure b (s.append d b) ∧ d.works ≤ (s.append d b).2.1.works ∧ (s.append d b).2.1.works ≤ d.works + 1 + (b.length + 7) ∧ (s.append d b).2.1.keep = d.keep := by
  have hw : s.wrong d = false := by unfold Sp.wrong; rw [h.ok, h.live.dead]; rfl
  unfold Sp.append
  rw [hw]
  simp only [Bool.false_eq_true, if_false]
  have hstm := h.stm
  by_cases hr : s.st.fin + (b.length + 7) ≤ 128 * s.st.many
  · obtain ⟨h1, h2, h3⟩ := h.st.append_any h.live hf ht hb hr
    obtain ⟨R, hR⟩ : ∃ R, s.st.append d b = R := ⟨_, rfl⟩
    rw [hR] at h1 h2 h3 ⊢
    rcases h3 with ⟨e0, e1, e2, e3, e4, e5, e6, e7, e8, e9, e10, e11⟩ | ⟨e0, e1, e2, e3, e4, e5, e6, e7, e8⟩ | ⟨e0, e1, e2, e3, e4, e5, e6, X, e7, e8⟩
    · rw [if_pos e0]
      obtain ⟨p1, p2⟩ := h.partly e6
      refine ⟨.inl ⟨rfl, ⟨e1, e7 q h.qs, h.qsize, h.ok, h.disk.same e1.size e6.len p1 p2, fun i hi => (h.slq i hi).trans (p1 i hi).symm, e2, by show R.1.first = _; rw [e3]; exact h.stf, by show R.1.many = _; rw [e4]; exact h.stm, by simp [h.many], ?_, ?_, fun e => by cases e⟩, rfl, rfl, rfl, rfl, e8, e9, e10, e11, by omega⟩, h1.1, h1.2, h2⟩
      · obtain ⟨m, hm⟩ := h.pre
        exact ⟨m ++ [b], by rw [hm, List.append_assoc]⟩
      · show (q.drop R.1.first).flatten.take _ = _
        rw [e3]
        exact h.rowq
    · rw [if_neg (by rw [e0]; decide)]
      obtain ⟨p1, p2⟩ := h.partly e5
      have hs : ({ s with st := R.1 } : Sp) = s := by rw [e1]
      rw [hs]
      refine ⟨.inr (.inl ⟨e0, ⟨e3, e6 q h.qs, h.qsize, h.ok, h.disk.same e3.size e5.len p1 p2, fun i hi => (h.slq i hi).trans (p1 i hi).symm, e4, h.stf, h.stm, h.many, h.pre, h.rowq, h.added⟩, rfl, .inr ⟨e2, e7⟩, e8⟩), h1.1, h1.2, h2⟩
    · rw [if_neg (by rw [e0]; decide)]
      obtain ⟨p1, p2⟩ := h.partly e7
      refine ⟨.inr (.inr ⟨e0, e2, e3, e4, e5, e6, ?_⟩), h1.1, h1.2, h2⟩
      have hq2 := h.rowq
      rw [h.stf] at hq2
      exact h.disk.mixed (e8 q h.qs) e7.size h.qsize e7.len (fun i hi => ⟨p1 i hi, h.slq i hi⟩) p2 hq2
  · have e1 : s.st.append d b = (s.st, d, 101) := by unfold St.append; rw [if_neg (by omega), if_pos (by omega)]
    rw [e1]
    simp only [show (101 : Int) = 0 ↔ False from by decide, if_false]
    exact ⟨.inr (.inl ⟨rfl, h, rfl, .inl ⟨rfl, by omega⟩, fun e => e⟩), Int.le_refl _, by omega, by first | rfl | trivial⟩

/-- Either of two. -/
def SpEither (F each : Nat) (d : Dev) (sl : Sl) (half : Nat) (sure : List (List UInt8)) (sl' : Sl) (half' : Nat) (next : List (List UInt8)) : Prop :=
  SpDisk F each d sl half sure ∨ SpDisk F each d sl' half' next

/-- What saving a manifest leaves. -/
def SvEnds (s : Sp) (d : Dev) (sure : List (List UInt8)) (half' : Nat) (next : List (List UInt8)) (r : Sp × Dev × Int) : Prop :=
  (r.2.2 = 0 ∧ r.1 = { s with sl := s.sl.next (manB half' (recs next).length next.length), broken := false } ∧ r.2.1.Live ∧ r.2.1.Sure r.2.1.secs ∧ SpDisk s.first s.each r.2.1 (s.sl.next (manB half' (recs next).length next.length)) half' next ∧
    (∀ i : Nat, s.first ≤ i → r.2.1.secs[i]? = d.secs[i]?) ∧ r.2.1.secs.length = d.secs.length ∧ -1 ≤ r.2.1.fail ∧ r.2.1.fail ≤ d.fail ∧ -1 ≤ r.2.1.till ∧ r.2.1.till ≤ d.till) ∨
  (r.2.2 = 101 ∧ 0 ≤ d.till ∧ r.2.1.Live ∧ (d.fail = -1 → r.2.1.fail = -1) ∧ SpEither s.first s.each r.2.1 s.sl s.half sure (s.sl.next (manB half' (recs next).length next.length)) half' next) ∨
  (r.2.2 = 100 ∧ 0 ≤ d.fail ∧ r.2.1.dead = true ∧ r.2.1.fail = -1 ∧ r.2.1.till = -1 ∧ r.2.1.sure = [] ∧ SpEither s.first s.each r.2.1 s.sl s.half sure (s.sl.next (manB half' (recs next).length next.length)) half' next)

theorem save_any {s : Sp} {d : Dev} {q : List Blk} {sure next : List (List UInt8)} {half' : Nat} (hl : d.Live) (hf : -1 ≤ d.fail) (ht : -1 ≤ d.till) (hq : d.Sure q) (hqs : ∀ b ∈ q, b.length = 128) (hok : s.broken = false)
    (hd : SpDisk s.first s.each d s.sl s.half sure) (hslq : ∀ i : Nat, i = s.sl.first ∨ i = s.sl.first + 1 → q[i]? = d.secs[i]?) (hrq : (q.drop (s.first + s.half * s.each)).flatten.take (recs sure).length = recs sure)
    (ht1 : s.sl.turn + 1 ≤ 1000000) (hh : half' ≤ 1) (hsm : Small next) (hfit : (recs next).length ≤ 128 * s.each) (hrow : (d.bytesAt (s.first + half' * s.each)).take (recs next).length = recs next) :
    SvEnds s d sure half' next (s.save d (manB half' (recs next).length next.length)) ∧ d.works ≤ (s.save d (manB half' (recs next).length next.length)).2.1.works ∧ (s.save d (manB half' (recs next).length next.length)).2.1.works ≤ d.works + 3 ∧ (s.save d (manB half' (recs next).length next.length)).2.1.keep = d.keep := by
  obtain ⟨m, hm⟩ : ∃ m, manB half' (recs next).length next.length = m := ⟨_, rfl⟩
  have hml : m.length ≤ 100 := by rw [← hm, length_manB]; omega
  have hF := hd.slF
  unfold SvEnds
  rw [hm]
  unfold Sp.save
  obtain ⟨w1, w2, w3⟩ := hl.flush
  obtain ⟨Q, hQ⟩ : ∃ Q, d.flush = Q := ⟨_, rfl⟩
  rw [hQ] at w1 w2 w3 ⊢
  rcases w3 with ⟨f0, f1, f2, f3, f4, f5, f6⟩ | ⟨f0, f1⟩ | ⟨f0, f1, f2, f3, f4, f5, f6⟩
  · rw [if_neg (by rw [f0]; decide)]
    have hon : SlOn s.sl Q.1 := hd.slOn.same (fun i _ => by rw [f2]) (by rw [f2])
    have hso := hon.save f1 (by omega) (by omega) (by rw [f2]; exact f3) hml
    obtain ⟨R, hR⟩ : ∃ R, s.sl.save Q.1 m = R := ⟨_, rfl⟩
    rw [hR] at hso ⊢
    have hso2 := hso.on hon ht1 hml (d' := R.2.1) rfl
    obtain ⟨g1, g2, g3, g4⟩ := hso
    have hwl := hon.which
    have hwi : s.sl.first + s.sl.which < s.first := by
      obtain ⟨x, y, _, _, h3⟩ := hon.pair
      have := h3.which_le
      omega
    rw [f2] at g1 hso2
    have hlen : R.2.1.secs.length = d.secs.length := by
      rcases g1 with e | e
      · rw [e]
      · rw [e, List.length_set]
    have hat : ∀ i : Nat, s.first ≤ i → R.2.1.secs[i]? = d.secs[i]? := fun i hi => by
      rcases g1 with e | e
      · rw [e]
      · rw [e, List.getElem?_set_ne (by omega)]
    have hby : ∀ n, s.first ≤ n → R.2.1.bytesAt n = d.bytesAt n := fun n hn => by
      unfold Dev.bytesAt
      rcases g1 with e | e
      · rw [e]
      · rw [e, drop_set_lt (by omega)]
    have hsz : ∀ b ∈ R.2.1.secs, b.length = 128 := fun b hb => by
      rcases g1 with e | e
      · rw [e] at hb; exact hl.size b hb
      · rw [e] at hb
        rcases List.mem_or_eq_of_mem_set hb with h1 | h1
        · exact hl.size b h1
        · rw [h1]; exact length_slotB (by omega)
    have hman : Man (s.sl.next m) half' next := ⟨hh, fun e => by simp [Sl.next] at e, fun _ => hm.symm⟩
    have key : SpEither s.first s.each R.2.1 s.sl s.half sure (s.sl.next m) half' next := by
      rcases hso2 with ⟨e1, e2⟩ | ⟨e1, e2⟩
      · exact .inl ⟨hsz, e1, hF, hd.one, by rw [hlen]; exact hd.there, hd.man, hd.small, hd.fits, by rw [hby _ (by omega)]; exact hd.rows⟩
      · exact .inr ⟨hsz, e1, hF, hd.one, by rw [hlen]; exact hd.there, hman, hsm, hfit, by rw [hby _ (by omega)]; exact hrow⟩
    have hwk : d.works ≤ R.2.1.works ∧ R.2.1.works ≤ d.works + 3 := by omega
    rcases g4 with ⟨e0, e1, e2, e3, e4, e5, e6, e7, e8, e9⟩ | ⟨e0, e1, e2, e3, e4, e5⟩ | ⟨e0, e1, e2, e3, e4, e5, e6⟩
    · refine ⟨.inl ⟨e0, ?_, e3, e4, ?_, hat, hlen, e6, by show R.2.1.fail ≤ _; omega, e8, by show R.2.1.till ≤ _; omega⟩, hwk.1, hwk.2, g3.trans w2⟩
      · simp only [e1, e0, hok, ne_eq, not_true_eq_false, decide_false, Bool.or_false]
      · have hset : R.2.1.secs = d.secs.set (s.sl.first + s.sl.which) (slotB (s.sl.turn + 1) m) := by rw [e2, f2]
        have hon2 : SlOn (s.sl.next m) R.2.1 := hd.slOn.set ht1 hml (fun i _ => by rw [hset]) hlen
        exact ⟨hsz, hon2, hF, hd.one, by rw [hlen]; exact hd.there, hman, hsm, hfit, by rw [hby _ (by omega)]; exact hrow⟩
    · exact ⟨.inr (.inl ⟨e0, by omega, e3, fun e => e5 (by omega), key⟩), hwk.1, hwk.2, g3.trans w2⟩
    · exact ⟨.inr (.inr ⟨e0, by omega, e3, e4, e5, e6, key⟩), hwk.1, hwk.2, g3.trans w2⟩
  · have fq : Q.2 = 101 ∧ Q.1 = d := by rw [f0]; exact ⟨rfl, rfl⟩
    rw [if_pos (by rw [fq.1]; decide), fq.2, fq.1]
    exact ⟨.inr (.inl ⟨rfl, by omega, hl, fun e => e, .inl hd⟩), Int.le_refl _, by show d.works ≤ _; omega, rfl⟩
  · rw [if_pos (by rw [f0]; decide)]
    have hd2 : SpDisk s.first s.each Q.1 s.sl s.half sure := hd.mixed (f6 q hq) hl.size hqs rfl (fun i hi => ⟨rfl, hslq i hi⟩) hd.rows hrq
    exact ⟨.inr (.inr ⟨f0, f1, f2, f3, f4, f5, .inl hd2⟩), w1.1, by show Q.1.works ≤ _; omega, w2⟩
end Go.Proofs.Ytbnflbkaogpnbaa
