/- A log on a device, all of it new; its deeds. -/
import Derived.Test.YtbnflbkaogpnbaaI1
import Derived.Test.YtbnflbkaogpnbaaQA
namespace Go.Proofs.Ytbnflbkaogpnbaa
set_option linter.unusedVariables false
open Go.RowKit

theorem SpDisk.inv {F each half : Nat} {d : Dev} {sl : Sl} {l : List (List UInt8)} (h : SpDisk F each d sl half l) (hl : d.Live) {q : List Blk} (hq : d.Sure q) (hqs : ∀ b ∈ q, b.length = 128) (hs : ∀ i : Nat, i = sl.first ∨ i = sl.first + 1 → q[i]? = d.secs[i]?) (hr : (q.drop (F + half * each)).flatten.take (recs l).length = recs l) : SpInv (Sp.opened F each half sl l) d q l l := by
  have hth := half_room h.man.le h.there
  refine ⟨hl, hq, hqs, rfl, h, hs, ⟨⟨h.one, hth, h.fits, ?_⟩, ?_, h.small, h.rows⟩, rfl, rfl, rfl, ⟨[], by simp⟩, hr, fun _ => rfl⟩
  · show ((recs l).drop ((recs l).length - (recs l).length % 128)).length = (recs l).length % 128
    rw [List.length_drop]
    omega
  · show (recs l).drop _ = ((d.bytesAt (F + half * each)).take (recs l).length).drop _
    rw [h.rows]
    rfl

theorem SpDisk.invNow {F each half : Nat} {d : Dev} {sl : Sl} {l : List (List UInt8)} (h : SpDisk F each d sl half l) (hl : d.Live) (hq : d.Sure d.secs) : SpInv (Sp.opened F each half sl l) d d.secs l l :=
  h.inv hl hq h.size (fun _ _ => rfl) h.rows

theorem SpDisk.new {n f each : Nat} (h1 : 1 ≤ each) (h2 : f + 2 + 2 * each ≤ n) : SpDisk (f + 2) each (Dev.new n) ⟨f, 0, 0, []⟩ 0 [] :=
  ⟨fun b hb => by simp [Dev.new] at hb; rw [hb.2]; rfl, SlOn.new (by omega), rfl, h1, by simpa [Dev.new] using h2, ⟨by omega, fun _ => ⟨rfl, rfl⟩, fun h => absurd h (Nat.lt_irrefl 0)⟩, fun b hb => by simp at hb, by simp [recs_nil], by simp [recs_nil]⟩

/-- The device turns, its sectors do not. -/
theorem SpInv.arm {s : Sp} {d d' : Dev} {q : List Blk} {now sure : List (List UInt8)} (h : SpInv s d q now sure) (hl : d'.Live) (hs : d'.secs = d.secs) (hu : d'.Sure q) : SpInv s d' q now sure :=
  ⟨hl, hu, h.qsize, h.ok, h.disk.same (by rw [hs]; exact h.disk.size) (by rw [hs]) (fun i _ => by rw [hs]) (by unfold Dev.bytesAt; rw [hs]; exact h.disk.rows), fun i hi => by rw [hs]; exact h.slq i hi,
    ⟨⟨h.st.wf.one, by rw [hs]; exact h.st.wf.there, h.st.wf.fin, h.st.wf.last⟩, by unfold Dev.bytesAt; rw [hs]; exact h.st.last, h.st.small, by unfold Dev.bytesAt; rw [hs]; exact h.st.rows⟩, h.stf, h.stm, h.many, h.pre, h.rowq, h.added⟩

theorem SpInv.wrongNo {s : Sp} {d : Dev} {q : List Blk} {now sure : List (List UInt8)} (h : SpInv s d q now sure) : s.wrong d = false := by unfold Sp.wrong; rw [h.ok, h.live.dead]; rfl
theorem SpInv.touchNo {s : Sp} {d : Dev} {q : List Blk} {now sure : List (List UInt8)} (h : SpInv s d q now sure) : s.touch d = s := touch_no h.wrongNo

section
variable {w : World} {y a : Nat} {F : List Nat} {s : Sp} {d : Dev}

theorem SpAt.dv (h : SpAt w y a F s d) : ∃ fp, Dv w a fp d ∧ ∀ j ∈ fp, j ∈ F := by
  obtain ⟨zs, zt, fp, slp, stp, h1, h2⟩ := h.parts
  exact ⟨fp, h1.dv, fun j hj => h2 j (.inr (.inl hj))⟩

/-- A deed of the device. -/
theorem SpAt.dvd (h : SpAt w y a F s d) {f : FuncId} {args : Array Value} {r : Dev × Int} (hc : ∀ fp, Dv w a fp d → (∀ j ∈ fp, j ∈ F) → Calls Try.prog f args w (DvPost w a fp r)) : Calls Try.prog f args w (SpPost w y a F s r.1 r.2) :=
  h.deed (fun zs zt fp slp stp hP hF => (hc fp hP.dv hF).mono (by
    rintro e w' ⟨rfl, fp', g1, g2, g3⟩
    exact .of (hP.turnD g1 g2 g3) (.dev g2 g3)))

theorem sp_append {q : List Blk} {now sure : List (List UInt8)} (h : SpAt w y a F s d) (hi : SpInv s d q now sure) (hmany : s.many < 1000000000) (A : Option Addr) (n c : Nat) (b : List UInt8) (hb : SlAt w A n c (u8vs b)) (hA : A = none → c = 0) (hAy : ∀ p, A = some p → 0 < n → p.block ∉ F)
    (hwk : d.works < 9223372036854000000) : Calls Try.prog 59 #[.pointer (some ⟨y, 0, none⟩), .slice A n c] w (SpPost w y a F (s.append d b).1 (s.append d b).2.1 (s.append d b).2.2) := by
  obtain ⟨zs0, zt0, fp0, slp0, stp0, h1, h2⟩ := h.parts
  exact h.deed (fun zs zt fp slp stp hP hF => (spoolAppend_any hP hi.st.wf hmany A n c b hb hA (fun p e hn => fun hm => hAy p e hn (by rw [hm]; exact h2 y (.inl rfl))) hwk).mono (fun e w' g => g.weak))

theorem SlOn.newer {s : Sl} {d : Dev} (h : SlOn s d) : s.newer ≤ 1 := by
  obtain ⟨_, _, _, _, h9⟩ := h.pair
  exact h9.newer

theorem sp_flush {q : List Blk} {now sure : List (List UInt8)} (h : SpAt w y a F s d) (hi : SpInv s d q now sure) (hmany : s.many < 1000000000) (htn : s.sl.turn < 9223372036854775000) (hwk : d.works < 9223372036853000000) :
    Calls Try.prog 60 #[.pointer (some ⟨y, 0, none⟩)] w (SpPost w y a F (s.flush d).1 (s.flush d).2.1 (s.flush d).2.2) := by
  obtain ⟨fpd, hDv, _⟩ := h.dv
  have hmx := hDv.wf.many
  have h3 := hi.st.wf.fin; have h4 := hi.disk.there; have h5 := hi.stm; have h6 := hi.disk.slOn.there
  exact h.deed (fun zs zt fp slp stp hP hF => (spoolFlush_any hP hi.disk.man.le (by omega) (by omega) hi.disk.slOn.newer htn (by omega) hwk).mono (fun e w' g => g.weak))

theorem sp_replace {q : List Blk} {now sure : List (List UInt8)} (h : SpAt w y a F s d) (hi : SpInv s d q now sure) (hfa : -1 ≤ d.fail) (hti : -1 ≤ d.till) (htn : s.sl.turn < 9223372036854775000) (hwk : d.works < 9223372036800000000)
    (A : Option Addr) (n c : Nat) (ps : List Part) (hB : BytessAt w A n c ps) (hsm : Small (texts ps)) (hn : n ≤ 1000) (hA : ∀ p, A = some p → 0 < n → p.block ∉ F) (hps : ∀ q ∈ ps, ∀ p, q.A = some p → 0 < q.n → p.block ∉ F) :
    Calls Try.prog 61 #[.pointer (some ⟨y, 0, none⟩), .slice A n c] w (SpPost w y a F (s.replace d (texts ps)).1 (s.replace d (texts ps)).2.1 (s.replace d (texts ps)).2.2) := by
  obtain ⟨zs, zt, fp, slp, stp, hP, h2⟩ := h.parts
  have hmx := hP.dv.wf.many
  have h4 := hi.disk.there; have h6 := hi.disk.slOn.there
  have sub : ∀ j, j ∈ y :: (fp ++ slp ++ stp) → j ∈ F := fun j hj => h2 j (by simpa [or_assoc] using hj)
  refine (spoolReplace_any hP hi.wrongNo hi.disk.empty hi.live hfa hti hi.disk.man.le hi.disk.one hi.disk.slOn.newer htn (by omega) hwk A n c ps hB hsm hn (fun p e hn hm => hA p e hn (sub _ hm)) (fun q hq p e hn hm => hps q hq p e hn (sub _ hm))).mono ?_
  intro e w' g
  obtain ⟨rfl, zt', fp', slp', stp', g1, g2⟩ := g.parts
  refine ⟨rfl, _, g1.at_, g2.kept.mono (fun i hi => .inl (sub i hi)), fun j hj => ?_⟩
  simp only [List.mem_cons, List.mem_append] at hj
  rcases hj with rfl | (hj | hj) | hj
  · exact .inl (h2 _ (.inl rfl))
  · rcases g2.f j hj with e | e
    · exact .inl (h2 j (.inr (.inl e)))
    · exact .inr e
  · rcases g2.l j hj with e | e
    · exact .inl (h2 j (.inr (.inr (.inl e))))
    · exact .inr e
  · rcases g2.t j hj with e | e
    · exact .inl (h2 j (.inr (.inr (.inr e))))
    · exact .inr e

theorem SpAt.tell (h : SpAt w y a F s d) {f : FuncId} {args : Array Value} {n : Int} (hc : ∀ zs zt fp slp stp, SpP w y zs zt a fp slp stp s d → Calls Try.prog f args w (TlPost w y zs zt a fp slp stp s d (.int .i64 n))) : Calls Try.prog f args w (SpPost w y a F (s.touch d) d n) :=
  h.deed (fun zs zt fp slp stp hP _ => (hc zs zt fp slp stp hP).mono (by
    rintro e w' ⟨rfl, g1, g2⟩
    exact .of g1 (.own g2)))

theorem sp_len {q : List Blk} {now sure : List (List UInt8)} (h : SpAt w y a F s d) (hi : SpInv s d q now sure) : Calls Try.prog 62 #[.pointer (some ⟨y, 0, none⟩)] w (SpPost w y a F s d s.many) := by
  have := h.tell (fun zs zt fp slp stp hP => spoolLen_any hP hi.wrongNo)
  rw [hi.touchNo] at this
  exact this
theorem sp_half {q : List Blk} {now sure : List (List UInt8)} (h : SpAt w y a F s d) (hi : SpInv s d q now sure) : Calls Try.prog 103 #[.pointer (some ⟨y, 0, none⟩)] w (SpPost w y a F s d s.half) := by
  have := h.tell (fun zs zt fp slp stp hP => spoolHalf_any hP hi.wrongNo)
  rw [hi.touchNo] at this
  exact this
theorem sp_left {q : List Blk} {now sure : List (List UInt8)} (h : SpAt w y a F s d) (hi : SpInv s d q now sure) : Calls Try.prog 101 #[.pointer (some ⟨y, 0, none⟩)] w (SpPost w y a F s d (128 * s.st.many - s.st.fin)) := by
  obtain ⟨fpd, hDv, _⟩ := h.dv
  have hmx := hDv.wf.many
  have := h.tell (fun zs zt fp slp stp hP => spoolLeft_any hP hi.wrongNo (by have h1 := hi.st.wf.there; omega) hi.st.wf.fin)
  rw [hi.touchNo] at this
  exact this
end

/-- The same, all of it new since w0. -/
structure SpF (w0 w : World) (y a : Nat) (F : List Nat) (s : Sp) (d : Dev) : Prop where
  at_ : SpAt w y a F s d
  low : ∀ j ∈ F, w0.heap.size ≤ j
  kept : Kept [] w0 w

theorem SpF.next {w0 w w' : World} {y a : Nat} {F : List Nat} {s : Sp} {d : Dev} (h : SpF w0 w y a F s d) (hk : Kept [] w w') : SpF w0 w' y a F s d := ⟨h.at_.new hk, h.low, h.kept.trans hk⟩

theorem SpF.step {w0 w w' : World} {y a : Nat} {F F' : List Nat} {s s' : Sp} {d d' : Dev} (h : SpF w0 w y a F s d) (hT : SpAt w' y a F' s' d') (hs : Step F F' w w') : SpF w0 w' y a F' s' d' :=
  ⟨hT, fun j hj => by
    rcases hs.new j hj with e | e
    · exact h.low j e
    · exact Nat.le_trans h.kept.size e, h.kept.trans' hs.kept (fun i hi => .inr (h.low i hi))⟩

/-- A new device's log. -/
def NewSp (w0 : World) (a n f each : Nat) (e : Ending) (w' : World) : Prop :=
  ∃ y F A c, e = .returned (.tuple #[.pointer (some ⟨y, 0, none⟩), .slice A 0 c, .int .i64 0]) ∧ SpF w0 w' y a F (Sp.opened (f + 2) each 0 ⟨f, 0, 0, []⟩ []) (Dev.new n)

theorem sp_new {w0 w : World} {a : Nat} {fp : List Nat} {n f sectors each : Nat} (hD : Dv w a fp (Dev.new n)) (hk : Kept [] w0 w) (hN : ∀ j ∈ fp, w0.heap.size ≤ j) (h4 : 4 ≤ sectors) (he : (sectors - 2) / 2 = each) (hf : f + sectors ≤ n) :
    Calls Try.prog 58 #[.pointer (some ⟨a, 0, none⟩), .int .i64 f, .int .i64 sectors] w (NewSp w0 a n f each) := by
  refine (spool_ok hD rfl (SpDisk.new (n := n) (f := f) (each := each) (by omega) (by omega)) rfl h4 he (by simpa [Dev.new] using hf)).mono ?_
  rintro e w' ⟨y, zs, zt, slp, stp, A, n', c, ps, rfl, hk', hP, hB, htx, hlow, _⟩
  have h0 : n' = 0 := by
    rw [← hB.len]
    have := congrArg List.length htx
    simpa [texts] using this
  subst h0
  refine ⟨y, _, A, c, rfl, hP.at_, fun j hj => ?_, hk.trans hk'⟩
  have := hk.size
  simp only [List.mem_cons, List.mem_append] at hj
  rcases hj with rfl | (hj | hj) | hj
  · have := hlow j (.inl rfl); omega
  · exact hN j hj
  · have := hlow j (.inr (.inl hj)); omega
  · have := hlow j (.inr (.inr hj)); omega

/-- The log is opened once more: what it answers. -/
def AgainSp (w : World) (l : List (List UInt8)) (e : Ending) (w' : World) : Prop :=
  ∃ v A n c ps, e = .returned (.tuple #[v, .slice A n c, .int .i64 0]) ∧ Kept [] w w' ∧ BytessAt w' A n c ps ∧ texts ps = l ∧ (∀ p, A = some p → w.heap.size ≤ p.block) ∧ ∀ q ∈ ps, ∀ p, q.A = some p → w.heap.size ≤ p.block

theorem sp_again {w : World} {y a : Nat} {F : List Nat} {s0 : Sp} {d : Dev} (h : SpAt w y a F s0 d) (hd : d.dead = false) {Fi each half first sectors : Nat} {sl : Sl} {l : List (List UInt8)} (hs : SpDisk Fi each d sl half l) (hF : first + 2 = Fi) (hs4 : 4 ≤ sectors) (hse : (sectors - 2) / 2 = each) (hth : first + sectors ≤ d.secs.length) :
    Calls Try.prog 58 #[.pointer (some ⟨a, 0, none⟩), .int .i64 first, .int .i64 sectors] w (AgainSp w l) := by
  obtain ⟨fp, hD, _⟩ := h.dv
  refine (spool_ok hD hd hs hF hs4 hse hth).mono ?_
  rintro e w' ⟨y2, zs, zt, slp, stp, A, n, c, ps, rfl, hk, _, hB, htx, _, g1, g2⟩
  exact ⟨_, A, n, c, ps, rfl, hk, hB, htx, fun p e => (g1 p e).1, fun q hq p e => (g2 q hq p e).1⟩
end Go.Proofs.Ytbnflbkaogpnbaa
