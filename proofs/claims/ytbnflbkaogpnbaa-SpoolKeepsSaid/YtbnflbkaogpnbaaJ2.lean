/- The log: Flush and Replace, plain. No program in sight. -/
import Derived.Test.YtbnflbkaogpnbaaJ1
namespace Go.Proofs.Ytbnflbkaogpnbaa
set_option linter.unusedVariables false

/-- What Flush or Replace leaves of a log: what is sure is as it was, or as it was to be. -/
def FlEnds (s : Sp) (d : Dev) (sure next : List (List UInt8)) (r : Sp × Dev × Int) : Prop :=
  (r.2.2 = 0 ∧ (∃ q, SpInv r.1 r.2.1 q next next) ∧ r.1.sl.turn ≤ s.sl.turn + 1 ∧ r.1.sl.first = s.sl.first ∧ r.1.first = s.first ∧ r.1.each = s.each ∧ -1 ≤ r.2.1.fail ∧ r.2.1.fail ≤ d.fail ∧ -1 ≤ r.2.1.till ∧ r.2.1.till ≤ d.till ∧ r.2.1.secs.length = d.secs.length) ∨
  (r.2.2 = 101 ∧ 0 ≤ d.till ∧ r.2.1.Live ∧ (d.fail = -1 → r.2.1.fail = -1) ∧ ∃ sl half, sl.turn ≤ s.sl.turn + 1 ∧ (SpDisk s.first s.each r.2.1 sl half sure ∨ SpDisk s.first s.each r.2.1 sl half next)) ∨
  (r.2.2 = 100 ∧ 0 ≤ d.fail ∧ r.2.1.dead = true ∧ r.2.1.fail = -1 ∧ r.2.1.till = -1 ∧ r.2.1.sure = [] ∧ ∃ sl half, sl.turn ≤ s.sl.turn + 1 ∧ (SpDisk s.first s.each r.2.1 sl half sure ∨ SpDisk s.first s.each r.2.1 sl half next))

theorem SpEither.ex {F each : Nat} {d : Dev} {sl : Sl} {half : Nat} {sure : List (List UInt8)} {m : List UInt8} {half' : Nat} {next : List (List UInt8)} (h : SpEither F each d sl half sure (sl.next m) half' next) :
    ∃ sl2 half2, sl2.turn ≤ sl.turn + 1 ∧ (SpDisk F each d sl2 half2 sure ∨ SpDisk F each d sl2 half2 next) := by
  rcases h with h | h
  · exact ⟨sl, half, by omega, .inl h⟩
  · exact ⟨_, half', Nat.le_refl _, .inr h⟩

theorem SpInv.row_now {s : Sp} {d : Dev} {q : List Blk} {now sure : List (List UInt8)} (h : SpInv s d q now sure) : (d.bytesAt (s.first + s.half * s.each)).take (recs now).length = recs now := by
  have h1 := h.st.rows
  rw [h.finE, h.stf] at h1
  exact h1

theorem SpInv.fits {s : Sp} {d : Dev} {q : List Blk} {now sure : List (List UInt8)} (h : SpInv s d q now sure) : (recs now).length ≤ 128 * s.each := by
  have h1 := h.st.wf.fin
  rw [h.finE, h.stm] at h1
  exact h1

theorem SpInv.rowqF {s : Sp} {d : Dev} {q : List Blk} {now sure : List (List UInt8)} (h : SpInv s d q now sure) : (q.drop (s.first + s.half * s.each)).flatten.take (recs sure).length = recs sure := by
  have h1 := h.rowq
  rw [h.stf] at h1
  exact h1

theorem SpInv.flush {s : Sp} {d : Dev} {q : List Blk} {now sure : List (List UInt8)} (h : SpInv s d q now sure) (hf : -1 ≤ d.fail) (ht : -1 ≤ d.till) (ht1 : s.sl.turn + 1 ≤ 1000000) :
    FlEnds s d sure now (s.flush d) ∧ d.works ≤ (s.flush d).2.1.works ∧ (s.flush d).2.1.works ≤ d.works + 3 ∧ (s.flush d).2.1.keep = d.keep := by
  have hw : s.wrong d = false := by unfold Sp.wrong; rw [h.ok, h.live.dead]; rfl
  unfold Sp.flush
  rw [hw]
  simp only [Bool.false_eq_true, if_false]
  cases ha : s.added with
  | false =>
    simp only [if_true]
    have e := h.added ha
    have h2 := h
    rw [e] at h2
    rw [e]
    exact ⟨.inl ⟨rfl, ⟨q, h2⟩, by show s.sl.turn ≤ _; omega, rfl, rfl, rfl, hf, Int.le_refl _, ht, Int.le_refl _, rfl⟩, Int.le_refl _, by show d.works ≤ _; omega, by first | rfl | trivial⟩
  | true =>
    simp only [Bool.true_eq_false, if_false]
    rw [h.finE, h.many]
    obtain ⟨k1, k2, k3, k4⟩ := save_any (next := now) (half' := s.half) h.live hf ht h.qs h.qsize h.ok h.disk h.slq h.rowqF ht1 h.disk.man.le h.st.small h.fits h.row_now
    obtain ⟨R, hR⟩ : ∃ R, s.save d (manB s.half (recs now).length now.length) = R := ⟨_, rfl⟩
    rw [hR] at k1 k2 k3 k4 ⊢
    refine ⟨?_, k2, k3, k4⟩
    rcases k1 with ⟨e0, e1, e2, e3, e4, e5, e6, e7, e8, e9, e10⟩ | ⟨e0, e1, e2, e3, e4⟩ | ⟨e0, e1, e2, e3, e4, e5, e6⟩
    · refine .inl ⟨e0, ⟨R.2.1.secs, ?_⟩, ?_, ?_, ?_, ?_, e7, e8, e9, e10, e6⟩
      · simp only [e1, e0]
        have hby : R.2.1.bytesAt s.st.first = d.bytesAt s.st.first := by
          unfold Dev.bytesAt
          congr 1
          apply List.ext_getElem?
          intro i
          rw [List.getElem?_drop, List.getElem?_drop, e5 _ (by have := h.stf; omega)]
        have hst : SInv s.st R.2.1 now := ⟨⟨h.st.wf.one, by rw [e6]; exact h.st.wf.there, h.st.wf.fin, h.st.wf.last⟩, by rw [hby]; exact h.st.last, h.st.small, by rw [hby]; exact h.st.rows⟩
        refine ⟨e2, e3, e2.size, rfl, e4, fun i _ => rfl, hst, h.stf, h.stm, h.many, ⟨[], by simp⟩, ?_, fun _ => rfl⟩
        show (R.2.1.bytesAt s.st.first).take _ = _
        rw [hby, h.stf]
        exact h.row_now
      · simp only [e1]; exact Nat.le_refl _
      · simp only [e1]; rfl
      · simp only [e1]
      · simp only [e1]
    · exact .inr (.inl ⟨e0, e1, e2, e3, e4.ex⟩)
    · exact .inr (.inr ⟨e0, e1, e2, e3, e4, e5, e6.ex⟩)

/-- Sectors beside some are as they were. -/
def Beside (a n : Nat) (X Y : List Blk) : Prop := ∀ i : Nat, i < a ∨ a + n ≤ i → X[i]? = Y[i]?

theorem allSize_cons (b : List UInt8) (l : List (List UInt8)) : allSize (b :: l) = b.length + 7 + allSize l := by simp [allSize]
theorem allSize_recs (l : List (List UInt8)) : (recs l).length = allSize l := by
  induction l with
  | nil => rfl
  | cons b l ih => rw [recs_cons, List.length_append, ih, length_recB, allSize_cons]

/-- What many Appends leave. -/
structure AsOut (s : St) (d : Dev) (l m : List (List UInt8)) (r : St × Dev × Int) : Prop where
  works : d.works ≤ r.2.1.works ∧ r.2.1.works ≤ d.works + 2 * allSize m
  keep : r.2.1.keep = d.keep
  ways : (r.2.2 = 0 ∧ r.2.1.Live ∧ SInv r.1 r.2.1 (l ++ m) ∧ r.1.first = s.first ∧ r.1.many = s.many ∧ Beside s.first s.many r.2.1.secs d.secs ∧ r.2.1.secs.length = d.secs.length ∧ (∀ q, d.Sure q → r.2.1.Sure q) ∧ -1 ≤ r.2.1.fail ∧ r.2.1.fail ≤ d.fail ∧ -1 ≤ r.2.1.till ∧ r.2.1.till ≤ d.till) ∨
    (r.2.2 = 101 ∧ 0 ≤ d.till ∧ r.2.1.Live ∧ Beside s.first s.many r.2.1.secs d.secs ∧ r.2.1.secs.length = d.secs.length ∧ (∀ q, d.Sure q → r.2.1.Sure q) ∧ r.2.1.till = 0 ∧ (d.fail = -1 → r.2.1.fail = -1)) ∨
    (r.2.2 = 100 ∧ 0 ≤ d.fail ∧ r.2.1.dead = true ∧ r.2.1.fail = -1 ∧ r.2.1.till = -1 ∧ r.2.1.sure = [] ∧ ∃ X, X.length = d.secs.length ∧ (∀ b ∈ X, b.length = 128) ∧ Beside s.first s.many X d.secs ∧ ∀ q, d.Sure q → Mixed r.2.1.secs X q)

theorem Partly.beside {s : St} {d : Dev} {X : List Blk} (h : Partly s d X) (hf : s.fin ≤ 128 * s.many) : Beside s.first s.many X d.secs := fun i hi => by
  by_cases hm : i < s.first + s.fin / 128 ∨ s.first + s.many ≤ i
  · exact h.rest i hm
  · omega

theorem SInv.appends_any : ∀ (m : List (List UInt8)) {s : St} {d : Dev} {l : List (List UInt8)} (_ : SInv s d l) (_ : d.Live) (_ : -1 ≤ d.fail) (_ : -1 ≤ d.till) (_ : Small m) (_ : s.fin + allSize m ≤ 128 * s.many), AsOut s d l m (s.appends d m) := by
  intro m
  induction m with
  | nil =>
    intro s d l h hd hf ht _ _
    exact ⟨⟨Int.le_refl _, by show d.works ≤ _; simp [allSize]⟩, rfl, .inl ⟨rfl, hd, by rw [List.append_nil]; exact h, rfl, rfl, fun _ _ => rfl, rfl, fun q hq => hq, hf, Int.le_refl _, ht, Int.le_refl _⟩⟩
  | cons b m ih =>
    intro s d l h hd hf ht hsm hr
    rw [allSize_cons] at hr
    obtain ⟨h1, h2, h3⟩ := h.append_any hd hf ht (b := b) (hsm b List.mem_cons_self) (by omega)
    rw [St.appends]
    obtain ⟨R, hR⟩ : ∃ R, s.append d b = R := ⟨_, rfl⟩
    rw [hR] at h1 h2 h3 ⊢
    rcases h3 with ⟨e0, e1, e2, e3, e4, e5, e6, e7, e8, e9, e10, e11⟩ | ⟨e0, e1, e2, e3, e4, e5, e6, e7, e8⟩ | ⟨e0, e1, e2, e3, e4, e5, e6, X, e7, e8⟩
    · rw [if_pos e0]
      obtain ⟨g1, g2, g3⟩ := ih e2 e1 e8 e10 (fun x hx => hsm x (List.mem_cons_of_mem _ hx)) (by rw [e5, e4]; omega)
      have hb := e6.beside h.wf.fin
      refine ⟨⟨by omega, by rw [allSize_cons]; omega⟩, g2.trans h2, ?_⟩
      rcases g3 with ⟨n0, n1, n2, n3, n4, n5, n6, n7, n8, n9, n10, n11⟩ | ⟨n0, n1, n2, n3, n4, n5, n6, n7⟩ | ⟨n0, n1, n2, n3, n4, n5, Y, n6, n7, n8, n9⟩
      · refine .inl ⟨n0, n1, by simpa using n2, n3.trans e3, n4.trans e4, fun i hi => (n5 i (by rw [e3, e4]; exact hi)).trans (hb i hi), n6.trans e6.len, fun q hq => n7 q (e7 q hq), n8, by omega, n10, by omega⟩
      · exact .inr (.inl ⟨n0, by omega, n2, fun i hi => (n3 i (by rw [e3, e4]; exact hi)).trans (hb i hi), n4.trans e6.len, fun q hq => n5 q (e7 q hq), n6, fun e => n7 (by omega)⟩)
      · exact .inr (.inr ⟨n0, by omega, n2, n3, n4, n5, Y, n6.trans e6.len, n7, fun i hi => (n8 i (by rw [e3, e4]; exact hi)).trans (hb i hi), fun q hq => n9 q (e7 q hq)⟩)
    · rw [if_neg (by rw [e0]; decide)]
      exact ⟨⟨h1.1, by rw [allSize_cons]; omega⟩, h2, .inr (.inl ⟨e0, e2, e3, e5.beside h.wf.fin, e5.len, e6, e7, e8⟩)⟩
    · rw [if_neg (by rw [e0]; decide)]
      exact ⟨⟨h1.1, by rw [allSize_cons]; omega⟩, h2, .inr (.inr ⟨e0, e2, e3, e4, e5, e6, X, e7.len, e7.size, e7.beside h.wf.fin, e8⟩)⟩

/-- The other half, empty. -/
theorem SpDisk.empty {s : Sp} {d : Dev} {l : List (List UInt8)} (h : SpDisk s.first s.each d s.sl s.half l) : SInv (s.empty (1 - s.half)) d [] := by
  have h1 := h.there; have h2 := h.man.le; have h3 := h.one
  refine ⟨⟨h3, ?_, Nat.zero_le _, rfl⟩, rfl, fun b hb => by simp at hb, by simp [Sp.empty, recs_nil]⟩
  show s.first + (1 - s.half) * s.each + s.each ≤ d.secs.length
  rcases (by omega : s.half = 0 ∨ s.half = 1) with e | e <;> rw [e] <;> simp <;> omega

/-- Where the other half alone is written, the one that counts is as it was. -/
theorem other_half {F each half : Nat} (hh : half ≤ 1) {X Y : List Blk} (hX : ∀ b ∈ X, b.length = 128) (hY : ∀ b ∈ Y, b.length = 128) (hb : Beside (F + (1 - half) * each) each X Y) {n : Nat} (hn : n ≤ 128 * each) :
    (X.drop (F + half * each)).flatten.take n = (Y.drop (F + half * each)).flatten.take n := by
  refine flatten_head (n := each) (fun b h => hX b (List.mem_of_mem_drop h)) (fun b h => hY b (List.mem_of_mem_drop h)) (fun i hi => ?_) hn
  rw [List.getElem?_drop, List.getElem?_drop]
  refine hb _ ?_
  rcases (by omega : half = 0 ∨ half = 1) with e | e <;> rw [e] <;> simp <;> omega

theorem SpInv.replace {s : Sp} {d : Dev} {q : List Blk} {now sure : List (List UInt8)} (h : SpInv s d q now sure) (hf : -1 ≤ d.fail) (ht : -1 ≤ d.till) (ht1 : s.sl.turn + 1 ≤ 1000000) {l : List (List UInt8)} (hl : Small l) (hr : allSize l ≤ 128 * s.each) :
    FlEnds s d sure l (s.replace d l) ∧ d.works ≤ (s.replace d l).2.1.works ∧ (s.replace d l).2.1.works ≤ d.works + 2 * allSize l + 3 ∧ (s.replace d l).2.1.keep = d.keep := by
  have hw : s.wrong d = false := by unfold Sp.wrong; rw [h.ok, h.live.dead]; rfl
  have hbig : l.any (fun b => decide (16384 < b.length)) = false := by
    rw [List.any_eq_false]
    intro b hb
    have := hl b hb
    simp
    omega
  unfold Sp.replace
  rw [hw, hbig]
  simp only [Bool.false_eq_true, if_false]
  rw [if_neg (by omega)]
  have hE := h.disk.empty
  have hh := h.disk.man.le
  have hF := h.disk.slF
  obtain ⟨a1, a2, a3⟩ := SInv.appends_any l hE h.live hf ht hl (by show 0 + _ ≤ 128 * s.each; omega)
  obtain ⟨R, hR⟩ : ∃ R, (s.empty (1 - s.half)).appends d l = R := ⟨_, rfl⟩
  rw [hR] at a1 a2 a3 ⊢
  have slots : ∀ {X : List Blk}, Beside (s.empty (1 - s.half)).first (s.empty (1 - s.half)).many X d.secs → ∀ i : Nat, i = s.sl.first ∨ i = s.sl.first + 1 → X[i]? = d.secs[i]? := fun hb i hi => hb i (.inl (by show i < s.first + _; omega))
  have keeps : ∀ {X : List Blk}, (∀ b ∈ X, b.length = 128) → Beside (s.empty (1 - s.half)).first (s.empty (1 - s.half)).many X d.secs → (X.drop (s.first + s.half * s.each)).flatten.take (recs sure).length = recs sure := fun hX hb => by
    rw [other_half hh hX h.live.size hb h.disk.fits]
    exact h.disk.rows
  rcases a3 with ⟨n0, n1, n2, n3, n4, n5, n6, n7, n8, n9, n10, n11⟩ | ⟨n0, n1, n2, n3, n4, n5, n6, n7⟩ | ⟨n0, n1, n2, n3, n4, n5, X, n6, n7, n8, n9⟩
  · rw [if_neg (by rw [n0]; decide)]
    simp only [List.nil_append] at n2
    have hfe := n2.fin n1.size
    have hd1 : SpDisk s.first s.each R.2.1 s.sl s.half sure := h.disk.same n1.size n6 (slots n5) (keeps n1.size n5)
    have hrow : (R.2.1.bytesAt (s.first + (1 - s.half) * s.each)).take (recs l).length = recs l := by
      have h1 := n2.rows
      rw [hfe, n3] at h1
      exact h1
    rw [hfe]
    obtain ⟨k1, k2, k3, k4⟩ := save_any (s := s) (d := R.2.1) (q := q) (sure := sure) (next := l) (half' := 1 - s.half) n1 n8 n10 (n7 q h.qs) h.qsize h.ok hd1 (fun i hi => (h.slq i hi).trans (slots n5 i hi).symm) h.rowqF ht1 (by omega) hl (by rw [allSize_recs]; exact hr) hrow
    obtain ⟨V, hV⟩ : ∃ V, s.save R.2.1 (manB (1 - s.half) (recs l).length l.length) = V := ⟨_, rfl⟩
    rw [hV] at k1 k2 k3 k4 ⊢
    have hwk : d.works ≤ V.2.1.works ∧ V.2.1.works ≤ d.works + 2 * allSize l + 3 := by omega
    rcases k1 with ⟨e0, e1, e2, e3, e4, e5, e6, e7, e8, e9, e10⟩ | ⟨e0, e1, e2, e3, e4⟩ | ⟨e0, e1, e2, e3, e4, e5, e6⟩
    · rw [if_neg (by rw [e0]; decide)]
      have hby : V.2.1.bytesAt R.1.first = R.2.1.bytesAt R.1.first := by
        unfold Dev.bytesAt
        congr 1
        apply List.ext_getElem?
        intro i
        rw [List.getElem?_drop, List.getElem?_drop, e5 _ (by rw [n3]; show s.first ≤ s.first + _ + i; omega)]
      have hst : SInv R.1 V.2.1 l := ⟨⟨n2.wf.one, by rw [e6]; exact n2.wf.there, n2.wf.fin, n2.wf.last⟩, by rw [hby]; exact n2.last, hl, by rw [hby]; exact n2.rows⟩
      refine ⟨.inl ⟨rfl, ⟨V.2.1.secs, ?_⟩, ?_, ?_, ?_, ?_, e7, by show V.2.1.fail ≤ _; omega, e9, by show V.2.1.till ≤ _; omega, by show V.2.1.secs.length = _; rw [e6, n6]⟩, hwk.1, hwk.2, k4.trans a2⟩
      · simp only [e1]
        refine ⟨e2, e3, e2.size, rfl, e4, fun i _ => rfl, hst, n3, n4, rfl, ⟨[], by simp⟩, ?_, fun _ => rfl⟩
        show (V.2.1.bytesAt R.1.first).take _ = _
        rw [hby, n3]
        exact hrow
      · simp only [e1]; exact Nat.le_refl _
      · simp only [e1]; rfl
      · simp only [e1]
      · simp only [e1]
    · rw [if_pos (by rw [e0]; decide)]
      exact ⟨.inr (.inl ⟨e0, by omega, e2, fun e => e3 (by omega), e4.ex⟩), hwk.1, hwk.2, k4.trans a2⟩
    · rw [if_pos (by rw [e0]; decide)]
      exact ⟨.inr (.inr ⟨e0, by omega, e2, e3, e4, e5, e6.ex⟩), hwk.1, hwk.2, k4.trans a2⟩
  · rw [if_pos (by rw [n0]; decide)]
    exact ⟨.inr (.inl ⟨n0, n1, n2, n7, s.sl, s.half, by omega, .inl (h.disk.same n2.size n4 (slots n3) (keeps n2.size n3))⟩), a1.1, by show R.2.1.works ≤ _; omega, a2⟩
  · rw [if_pos (by rw [n0]; decide)]
    exact ⟨.inr (.inr ⟨n0, n1, n2, n3, n4, n5, s.sl, s.half, by omega, .inl (h.disk.mixed (n9 q h.qs) n7 h.qsize n6 (fun i hi => ⟨slots n8 i hi, h.slq i hi⟩) (keeps n7 n8) h.rowqF)⟩), a1.1, by show R.2.1.works ≤ _; omega, a2⟩
end Go.Proofs.Ytbnflbkaogpnbaa
