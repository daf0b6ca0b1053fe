/- The log on a device that may fall, in memory: what each deed leaves; opened behind a fall. -/
import Derived.Test.YtbnflbkaogpnbaaL1
namespace Go.Proofs.Ytbnflbkaogpnbaa
set_option linter.unusedVariables false
open Go.RowKit

/-- A log that is to fall, or not; bounds of it. -/
structure KqSt (s : Sp) (d : Dev) (k : Nat) (now sure : List (List UInt8)) : Prop where
  inv : ∃ q, SpInv s d q now sure
  fail : -1 ≤ d.fail
  till : d.till = -1
  first : s.first = 5
  each : s.each = 44
  turn : s.sl.turn ≤ k
  works : d.works ≤ 3000 * k
  many : now.length ≤ 5 + k

/-- A device that fell: what lies on it. -/
structure KqDead (d : Dev) (k : Nat) (sure next : List (List UInt8)) (b : Bool) : Prop where
  dead : d.dead = true
  fail : d.fail = -1
  till : d.till = -1
  none : d.sure = []
  works : d.works ≤ 3000 * k
  there : ∃ sl half L, sl.turn ≤ k ∧ SpDisk 5 44 d sl half L ∧ (L = sure ∨ b = true ∧ L = next) ∧ L.length ≤ 5 + k

/-- What a deed leaves: all is done; there is no room; or it fell. -/
def KqEnd (w0 w : World) (y a : Nat) (F : List Nat) (k : Nat) (now sure next sure' : List (List UInt8)) (b : Bool) (n : Int) : Prop :=
  ∃ s d, SpF w0 w y a F s d ∧ ((n = 0 ∧ d.dead = false ∧ KqSt s d k next sure') ∨ (n = 101 ∧ d.dead = false ∧ KqSt s d k now sure) ∨ (n = 100 ∧ KqDead d k sure next b))

theorem KqEnd.next {w0 w w' : World} {y a : Nat} {F : List Nat} {k : Nat} {now sure next sure' : List (List UInt8)} {b : Bool} {n : Int} (h : KqEnd w0 w y a F k now sure next sure' b n) (hk : Kept [] w w') : KqEnd w0 w' y a F k now sure next sure' b n := by
  obtain ⟨s, d, h1, h2⟩ := h
  exact ⟨s, d, h1.next hk, h2⟩

theorem KqEnd.lt {w0 w : World} {y a : Nat} {F : List Nat} {k : Nat} {now sure next sure' : List (List UInt8)} {b : Bool} {n : Int} (h : KqEnd w0 w y a F k now sure next sure' b n) : (∀ j ∈ F, j < w.heap.size) ∧ (∀ j ∈ F, w0.heap.size ≤ j) ∧ Kept [] w0 w := by
  obtain ⟨s, d, h1, h2⟩ := h
  exact ⟨h1.at_.lt, h1.low, h1.kept⟩

def KqPost (w0 w : World) (y a : Nat) (F : List Nat) (k : Nat) (now sure next sure' : List (List UInt8)) (b : Bool) (e : Ending) (w' : World) : Prop :=
  ∃ n F', e = .returned (.int .i64 n) ∧ KqEnd w0 w' y a F' (k + 1) now sure next sure' b n ∧ Step F F' w w'

section
variable {w0 w : World} {y a : Nat} {F : List Nat} {s : Sp} {d : Dev} {k : Nat} {now sure : List (List UInt8)}

theorem KqSt.dead (h : KqSt s d k now sure) : d.dead = false := by
  obtain ⟨q, hq⟩ := h.inv
  exact hq.live.dead

theorem KqSt.sureLen (h : KqSt s d k now sure) : sure.length ≤ now.length := by
  obtain ⟨q, hq⟩ := h.inv
  obtain ⟨m, hm⟩ := hq.pre
  rw [hm, List.length_append]
  omega

theorem kq_append (h : SpF w0 w y a F s d) (hs : KqSt s d k now sure) (hk : k ≤ 1000) (A : Option Addr) (n c : Nat) (b : List UInt8) (hb : SlAt w A n c (u8vs b)) (hA : A = none → c = 0) (hAy : ∀ p, A = some p → 0 < n → p.block ∉ F) (hbl : b.length ≤ 200) :
    Calls Try.prog 59 #[.pointer (some ⟨y, 0, none⟩), .slice A n c] w (KqPost w0 w y a F k now sure (now ++ [b]) sure false) := by
  obtain ⟨q, hq⟩ := hs.inv
  have hf := hs.fail; have ht := hs.till; have hw := hs.works; have hm := hs.many; have htn := hs.turn; have hsl := hs.sureLen
  obtain ⟨h1, h2, h3, h4⟩ := hq.append hf (by omega) (b := b) (by omega)
  have hc := sp_append h.at_ hq (by rw [hq.many]; omega) A n c b hb hA hAy (by omega)
  obtain ⟨R, hR⟩ : ∃ R, s.append d b = R := ⟨_, rfl⟩
  rw [hR] at hc h1 h2 h3 h4
  obtain ⟨s', d', n'⟩ := R
  refine hc.mono ?_
  rintro e w' ⟨rfl, F', g1, g2⟩
  refine ⟨n', F', rfl, ⟨s', d', h.step g1 g2, ?_⟩, g2⟩
  simp only at h1 h2 h3 h4
  rcases h1 with ⟨e0, e1, e2, e3, e4, e5, e6, e7, e8, e9, e10⟩ | ⟨e0, e1, e2, ⟨e3, e4⟩ | ⟨e3, e4⟩, e5⟩ | ⟨e0, e1, e2, e3, e4, e5, e6⟩
  · simp only at e0 e1 e2 e3 e4 e5 e6 e7 e8 e9
    exact .inl ⟨e0, e1.live.dead, ⟨⟨q, e1⟩, e6, by omega, e3.trans hs.first, e4.trans hs.each, by rw [e2]; omega, by push_cast; omega, by simp; omega⟩⟩
  · simp only at e0 e1 e2 e3
    subst e2 e3
    exact .inr (.inl ⟨e0, hq.live.dead, ⟨⟨q, hq⟩, hf, ht, hs.first, hs.each, by omega, by push_cast; omega, by omega⟩⟩)
  · omega
  · simp only at e0 e2 e3 e4 e5 e6
    rw [hs.first, hs.each] at e6
    exact .inr (.inr ⟨e0, ⟨e2, e3, e4, e5, by push_cast; omega, ⟨_, _, sure, by omega, e6, .inl rfl, by omega⟩⟩⟩)

theorem fl_end {next sure' : List (List UInt8)} {R : Sp × Dev × Int} {w' : World} {F' : List Nat} (hs : KqSt s d k now sure) (h1 : FlEnds s d sure next R) (hw1 : R.2.1.works ≤ d.works + 3000) (hn : next.length ≤ 5 + (k + 1)) (hsp : SpF w0 w' y a F' R.1 R.2.1) :
    KqEnd w0 w' y a F' (k + 1) now sure next next true R.2.2 := by
  have hf := hs.fail; have ht := hs.till; have hw := hs.works; have hm := hs.many; have htn := hs.turn; have hsl := hs.sureLen
  obtain ⟨s', d', n'⟩ := R
  simp only at hw1 hsp
  refine ⟨s', d', hsp, ?_⟩
  rcases h1 with ⟨e0, ⟨q', e1⟩, e2, e3, e4, e5, e6, e7, e8, e9, e10⟩ | ⟨e0, e1, _⟩ | ⟨e0, e1, e2, e3, e4, e5, sl, half, e6, e7⟩
  · simp only at e0 e1 e2 e3 e4 e5 e6 e7 e8 e9 e10
    exact .inl ⟨e0, e1.live.dead, ⟨⟨q', e1⟩, e6, by omega, e4.trans hs.first, e5.trans hs.each, by omega, by push_cast; omega, hn⟩⟩
  · omega
  · simp only at e0 e2 e3 e4 e5 e7
    rw [hs.first, hs.each] at e7
    refine .inr (.inr ⟨e0, ⟨e2, e3, e4, e5, by push_cast; omega, ?_⟩⟩)
    rcases e7 with e7 | e7
    · exact ⟨sl, half, sure, by omega, e7, .inl rfl, by omega⟩
    · exact ⟨sl, half, next, by omega, e7, .inr ⟨rfl, rfl⟩, hn⟩

theorem kq_flush (h : SpF w0 w y a F s d) (hs : KqSt s d k now sure) (hk : k ≤ 1000) :
    Calls Try.prog 60 #[.pointer (some ⟨y, 0, none⟩)] w (KqPost w0 w y a F k now sure now now true) := by
  obtain ⟨q, hq⟩ := hs.inv
  have hf := hs.fail; have ht := hs.till; have hw := hs.works; have hm := hs.many; have htn := hs.turn
  obtain ⟨h1, h2, h3, h4⟩ := hq.flush hf (by omega) (by omega)
  have hc := sp_flush h.at_ hq (by rw [hq.many]; omega) (by omega) (by omega)
  refine hc.mono ?_
  rintro e w' ⟨rfl, F', g1, g2⟩
  exact ⟨_, F', rfl, fl_end (sure' := now) hs h1 (by omega) (by omega) (h.step g1 g2), g2⟩

theorem kq_replace (h : SpF w0 w y a F s d) (hs : KqSt s d k now sure) (hk : k ≤ 1000) (A : Option Addr) (n c : Nat) (ps : List Part) (hB : BytessAt w A n c ps) (hsm : ∀ b ∈ texts ps, b.length ≤ 200) (hn : n ≤ 5) (hA : ∀ p, A = some p → 0 < n → p.block ∉ F) (hps : ∀ q ∈ ps, ∀ p, q.A = some p → 0 < q.n → p.block ∉ F) :
    Calls Try.prog 61 #[.pointer (some ⟨y, 0, none⟩), .slice A n c] w (KqPost w0 w y a F k now sure (texts ps) (texts ps) true) := by
  obtain ⟨q, hq⟩ := hs.inv
  have hf := hs.fail; have ht := hs.till; have hw := hs.works; have hm := hs.many; have htn := hs.turn
  have hln : (texts ps).length = n := by rw [← hB.len]; simp [texts]
  have hal : ∀ l : List (List UInt8), (∀ b ∈ l, b.length ≤ 200) → allSize l ≤ 207 * l.length := by
    intro l
    induction l with
    | nil => intro _; simp [allSize]
    | cons b l ih =>
      intro hb
      have h1 := ih (fun c hc => hb c (List.mem_cons_of_mem _ hc))
      have h2 := hb b List.mem_cons_self
      rw [allSize_cons, List.length_cons]
      omega
  have hz := hal _ hsm
  have he := hs.each
  obtain ⟨h1, h2, h3, h4⟩ := hq.replace hf (by omega) (by omega) (l := texts ps) (fun b hb => by have := hsm b hb; omega) (by omega)
  have hc := sp_replace h.at_ hq hf (by omega) (by omega) (by omega) A n c ps hB (fun b hb => by have := hsm b hb; omega) (by omega) hA hps
  refine hc.mono ?_
  rintro e w' ⟨rfl, F', g1, g2⟩
  exact ⟨_, F', rfl, fl_end (sure' := texts ps) hs h1 (by omega) (by omega) (h.step g1 g2), g2⟩

/-- A deed of the device that tells when it is to fall. -/
def KqFail (w0 w : World) (y a : Nat) (F : List Nat) (s : Sp) (k : Nat) (now sure : List (List UInt8)) (n : Int) (e : Ending) (w' : World) : Prop :=
  ∃ F' d', e = .returned (.int .i64 0) ∧ SpF w0 w' y a F' s d' ∧ KqSt s d' k now sure ∧ d'.fail = max n (-1) ∧ Step F F' w w'

theorem kq_fail (h : SpF w0 w y a F s d) (hs : KqSt s d k now sure) (n : Int) (h0 : -9223372036854775808 ≤ n) (h1 : n ≤ 9223372036854775807) (A : Option Addr) (m c : Nat) (keep : List Int) (hx : SlAt w A m c (keep.map i64v)) (hm : m * 8 ≤ 140737488355328)
    (hk : ∀ n ∈ keep, -9223372036854775808 ≤ n ∧ n ≤ 9223372036854775807) : Calls Try.prog 34 #[.pointer (some ⟨a, 0, none⟩), .int .i64 n, .slice A m c] w (KqFail w0 w y a F s k now sure n) := by
  obtain ⟨q, hq⟩ := hs.inv
  have hl := hq.live
  have e1 : d.failAt n keep = ({ d with fail := max n (-1), keep := keep }, 0) := by unfold Dev.failAt; rw [hl.dead]; rfl
  have hc := h.at_.dvd (f := 34) (args := #[.pointer (some ⟨a, 0, none⟩), .int .i64 n, .slice A m c]) (r := d.failAt n keep) (fun fp hD hF => fail_dv hD n h0 h1 A m c keep hx hm hk)
  rw [e1] at hc
  refine hc.mono ?_
  rintro e w' ⟨rfl, F', g1, g2⟩
  exact ⟨F', _, rfl, h.step g1 g2, ⟨⟨q, hq.arm ⟨hl.dead, hl.size⟩ rfl hq.qs⟩, by show -1 ≤ max n (-1); omega, hs.till, hs.first, hs.each, hs.turn, hs.works, hs.many⟩, rfl, g2⟩

/-- Opened behind a fall. -/
def KqOpen (w0 w : World) (a : Nat) (fp : List Nat) (d : Dev) (sl : Sl) (half : Nat) (L : List (List UInt8)) (e : Ending) (w' : World) : Prop :=
  ∃ y F v, e = .returned (.tuple #[.pointer (some ⟨y, 0, none⟩), v, .int .i64 0]) ∧ SpF w0 w' y a F (Sp.opened 5 44 half sl L) d ∧ LiAt w' F v L ∧ Kept [] w w' ∧ w.heap.size ≤ y ∧ ∀ j ∈ F, j ∈ fp ∨ w.heap.size ≤ j

theorem kq_open {fp : List Nat} {sl : Sl} {half : Nat} {L : List (List UInt8)} (hD : Dv w a fp d) (hk : Kept [] w0 w) (hlow : ∀ j ∈ fp, w0.heap.size ≤ j) (hd : d.dead = false) (h : SpDisk 5 44 d sl half L) :
    Calls Try.prog 58 #[.pointer (some ⟨a, 0, none⟩), .int .i64 3, .int .i64 90] w (KqOpen w0 w a fp d sl half L) := by
  have hth := h.there
  refine (spool_ok hD hd h (first := 3) (sectors := 90) rfl (by omega) rfl (by omega)).mono ?_
  rintro e w' ⟨y, zs, zt, slp, stp, A, n, c, ps, rfl, hk', hP, hB, htx, hnew, hA, hps⟩
  have hn : n = L.length := by rw [← hB.len, ← htx]; simp [texts]
  subst hn
  have hF : ∀ j ∈ y :: (fp ++ slp ++ stp), j ∈ fp ∨ w.heap.size ≤ j := fun j hj => by
    simp only [List.mem_cons, List.mem_append] at hj
    rcases hj with rfl | (hj | hj) | hj
    · exact .inr (hnew _ (.inl rfl))
    · exact .inl hj
    · exact .inr (hnew _ (.inr (.inl hj)))
    · exact .inr (hnew _ (.inr (.inr hj)))
  have out : ∀ p : Addr, (w.heap.size ≤ p.block ∧ p.block ≠ y ∧ p.block ∉ slp ∧ p.block ∉ stp) → p.block ∉ y :: (fp ++ slp ++ stp) := fun p ⟨g1, g2, g3, g4⟩ hm => by
    simp only [List.mem_cons, List.mem_append] at hm
    rcases hm with hm | (hm | hm) | hm
    · exact g2 hm
    · have := hD.lt _ hm; omega
    · exact g3 hm
    · exact g4 hm
  refine ⟨y, _, _, rfl, ⟨hP.at_, fun j hj => ?_, hk.trans hk'⟩, ⟨A, c, ps, rfl, hB, htx, fun p e _ => out p (hA p e), fun q hq p e _ => out p (hps q hq p e)⟩, hk', hnew _ (.inl rfl), hF⟩
  have := hk.size
  rcases hF j hj with e | e
  · exact hlow j e
  · omega

/-- What a device that fell has, it has when it was booted. -/
theorem SpDisk.boot {Fi each half : Nat} {sl : Sl} {L : List (List UInt8)} (h : SpDisk Fi each d sl half L) : SpDisk Fi each d.boot sl half L :=
  h.same h.size rfl (fun i _ => rfl) h.rows

theorem SpDisk.opened {half : Nat} {sl : Sl} {L : List (List UInt8)} (h : SpDisk 5 44 d sl half L) (hd : d.dead = false) (hf : d.fail = -1) (ht : d.till = -1) (hs : d.sure = []) (h1 : sl.turn ≤ k) (h2 : d.works ≤ 3000 * k) (h3 : L.length ≤ 5 + k) : KqSt (Sp.opened 5 44 half sl L) d k L L :=
  ⟨⟨d.secs, h.invNow ⟨hd, h.size⟩ ⟨rfl, fun i => by rw [hs]; rfl⟩⟩, by omega, ht, rfl, rfl, h1, h2, h3⟩

/-- Len, its own block alone. -/
def KqLen (w0 w : World) (y a : Nat) (F : List Nat) (s : Sp) (d : Dev) (n : Nat) (e : Ending) (w' : World) : Prop :=
  e = .returned (.int .i64 n) ∧ SpF w0 w' y a F s d ∧ Kept [y] w w' ∧ y ∈ F

theorem kq_len (h : SpF w0 w y a F s d) (hs : KqSt s d k now sure) : Calls Try.prog 62 #[.pointer (some ⟨y, 0, none⟩)] w (KqLen w0 w y a F s d now.length) := by
  obtain ⟨q, hq⟩ := hs.inv
  obtain ⟨zs, zt, fp, slp, stp, hP, h2⟩ := h.at_.parts
  refine (spoolLen_any hP hq.wrongNo).mono ?_
  rintro e w' ⟨rfl, g1, g2⟩
  rw [hq.touchNo] at g1
  have hy : y ∈ F := h2 y (.inl rfl)
  exact ⟨by rw [hq.many], ⟨⟨⟨zs, zt, fp, slp, stp, g1, h2⟩, fun j hj => Nat.lt_of_lt_of_le (h.at_.lt j hj) g2.size⟩, h.low, h.kept.trans' g2 (fun j hj => by simp at hj; exact .inr (h.low j (hj ▸ hy)))⟩, g2, hy⟩

theorem SpF.beside {w' : World} {z : Nat} (h : SpF w0 w y a F s d) (hk : Kept [z] w w') (hz : z ∉ F) (hl : w0.heap.size ≤ z) : SpF w0 w' y a F s d := by
  obtain ⟨zs, zt, fp, slp, stp, hP, h2⟩ := h.at_.parts
  have hn : ∀ j ∈ F, j ∉ [z] := fun j hj hm => by simp at hm; exact hz (hm ▸ hj)
  exact ⟨⟨⟨zs, zt, fp, slp, stp, hP.kept hk (hn _ (h2 _ (.inl rfl))) (fun j hj => hn _ (h2 _ (.inr (.inl hj)))) (fun j hj => hn _ (h2 _ (.inr (.inr (.inl hj))))) (fun j hj => hn _ (h2 _ (.inr (.inr (.inr hj))))), h2⟩, fun j hj => Nat.lt_of_lt_of_le (h.at_.lt j hj) hk.size⟩, h.low, h.kept.trans' hk (fun j hj => by simp at hj; exact .inr (hj ▸ hl))⟩

theorem SpF.dv (h : SpF w0 w y a F s d) : ∃ fp, Dv w a fp d ∧ (∀ j ∈ fp, j ∈ F) ∧ ∀ j ∈ fp, w0.heap.size ≤ j := by
  obtain ⟨fp, h1, h2⟩ := h.at_.dv
  exact ⟨fp, h1, h2, fun j hj => h.low j (h2 j hj)⟩

/-- Boot. -/
def KqBoot (w0 w : World) (y a : Nat) (F : List Nat) (s : Sp) (d : Dev) (e : Ending) (w' : World) : Prop :=
  ∃ F', e = .returned (.int .i64 0) ∧ SpF w0 w' y a F' s d.boot ∧ Step F F' w w'

theorem kq_boot (h : SpF w0 w y a F s d) : Calls Try.prog 27 #[.pointer (some ⟨a, 0, none⟩)] w (KqBoot w0 w y a F s d) := by
  have hc := h.at_.dvd (f := 27) (args := #[.pointer (some ⟨a, 0, none⟩)]) (r := (d.boot, 0)) (fun fp hD hF => boot_dv hD)
  refine hc.mono ?_
  rintro e w' ⟨rfl, F', g1, g2⟩
  exact ⟨F', rfl, h.step g1 g2, g2⟩

theorem kq_dead (h : SpF w0 w y a F s d) : Calls Try.prog 35 #[.pointer (some ⟨a, 0, none⟩)] w fun e w' => e = .returned (.bool d.dead) ∧ w = w' := by
  obtain ⟨fp, hD, _⟩ := h.dv
  exact dead_dv hD
end
end Go.Proofs.Ytbnflbkaogpnbaa
