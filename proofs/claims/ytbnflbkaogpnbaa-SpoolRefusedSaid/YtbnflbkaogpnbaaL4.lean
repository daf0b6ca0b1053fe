/- The log on a device that may refuse, in memory: what each deed leaves. -/
import Derived.Test.YtbnflbkaogpnbaaL3
namespace Go.Proofs.Ytbnflbkaogpnbaa
set_option linter.unusedVariables false
open Go.RowKit

/-- "sure". -/
def sureB : List (List UInt8) := [[115, 117, 114, 101]]

/-- A log on a device that may refuse; bounds. -/
structure RxSt (s : Sp) (d : Dev) (k : Nat) (now : List (List UInt8)) : Prop where
  inv : ∃ q, SpInv s d q now sureB
  fail : d.fail = -1
  till : -1 ≤ d.till
  first : s.first = 2
  each : s.each = 29
  turn : s.sl.turn ≤ 10
  works : d.works ≤ 3000 * k
  many : now.length ≤ 1 + k

/-- All is done: what lies on the device. -/
def RxAll (w0 w : World) (y a : Nat) (F : List Nat) (want : List (List UInt8)) (n : Int) : Prop :=
  ∃ s d, SpF w0 w y a F s d ∧ d.dead = false ∧ ∃ sl half L, SpDisk 2 29 d sl half L ∧ (n = 0 ∧ L = want ∨ n = 101 ∧ (L = sureB ∨ L = want))

def RxEnd (w0 w : World) (y a : Nat) (F : List Nat) (k : Nat) (next : List (List UInt8)) (n : Int) : Prop :=
  (n = 0 ∧ ∃ s d, SpF w0 w y a F s d ∧ RxSt s d k next) ∨ (n = 101 ∧ ∃ s d, SpF w0 w y a F s d ∧ d.dead = false ∧ ∃ sl half, SpDisk 2 29 d sl half sureB)

def RxOne (w0 w : World) (y a : Nat) (F : List Nat) (k : Nat) (next : List (List UInt8)) (e : Ending) (w' : World) : Prop :=
  ∃ n F', e = .returned (.int .i64 n) ∧ RxEnd w0 w' y a F' k next n ∧ Step F F' w w'
def RxDone (w0 w : World) (y a : Nat) (F : List Nat) (want : List (List UInt8)) (e : Ending) (w' : World) : Prop :=
  ∃ n F', e = .returned (.int .i64 n) ∧ RxAll w0 w' y a F' want n ∧ Step F F' w w'

theorem RxEnd.next {w0 w w' : World} {y a : Nat} {F : List Nat} {k : Nat} {next : List (List UInt8)} {n : Int} (h : RxEnd w0 w y a F k next n) (hk : Kept [] w w') : RxEnd w0 w' y a F k next n := by
  rcases h with ⟨e, s, d, h1, h2⟩ | ⟨e, s, d, h1, h2⟩
  · exact .inl ⟨e, s, d, h1.next hk, h2⟩
  · exact .inr ⟨e, s, d, h1.next hk, h2⟩

section
variable {w0 w : World} {y a : Nat} {F : List Nat} {s : Sp} {d : Dev} {k : Nat} {now : List (List UInt8)}

theorem rx_append (h : SpF w0 w y a F s d) (hs : RxSt s d k now) (hk : k ≤ 1000) (A : Option Addr) (n c : Nat) (b : List UInt8) (hb : SlAt w A n c (u8vs b)) (hA : A = none → c = 0) (hAy : ∀ p, A = some p → 0 < n → p.block ∉ F) (hbl : b.length ≤ 200) :
    Calls Try.prog 59 #[.pointer (some ⟨y, 0, none⟩), .slice A n c] w (RxOne w0 w y a F (k + 1) (now ++ [b])) := by
  obtain ⟨q, hq⟩ := hs.inv
  have hf := hs.fail; have ht := hs.till; have hw := hs.works; have hm := hs.many; have htn := hs.turn
  obtain ⟨h1, h2, h3, h4⟩ := hq.append (by omega) ht (b := b) (by omega)
  have hc := sp_append h.at_ hq (by rw [hq.many]; omega) A n c b hb hA hAy (by omega)
  obtain ⟨R, hR⟩ : ∃ R, s.append d b = R := ⟨_, rfl⟩
  rw [hR] at hc h1 h2 h3 h4
  obtain ⟨s', d', n'⟩ := R
  refine hc.mono ?_
  rintro e w' ⟨rfl, F', g1, g2⟩
  refine ⟨n', F', rfl, ?_, g2⟩
  simp only at h1 h2 h3 h4
  rcases h1 with ⟨e0, e1, e2, e3, e4, e5, e6, e7, e8, e9, e10⟩ | ⟨e0, e1, e2, e3, e5⟩ | ⟨e0, e1, e2⟩
  · simp only at e0 e1 e2 e3 e4 e5 e6 e7 e8 e9
    exact .inl ⟨e0, s', d', h.step g1 g2, ⟨⟨q, e1⟩, by omega, e8, e3.trans hs.first, e4.trans hs.each, by rw [e2]; exact htn, by push_cast; omega, by simp; omega⟩⟩
  · simp only at e0 e1 e2
    have e7 := e1.disk
    subst e2
    rw [hs.first, hs.each] at e7
    exact .inr ⟨e0, s', d', h.step g1 g2, e1.live.dead, _, _, e7⟩
  · omega

theorem rx_end {next : List (List UInt8)} {R : Sp × Dev × Int} {w' : World} {F' : List Nat} (hs : RxSt s d k now) (h1 : FlEnds s d sureB next R) (hsp : SpF w0 w' y a F' R.1 R.2.1) : RxAll w0 w' y a F' next R.2.2 := by
  have hf := hs.fail; have ht := hs.till
  obtain ⟨s', d', n'⟩ := R
  simp only at hsp
  rcases h1 with ⟨e0, ⟨q', e1⟩, e2, e3, e4, e5, e6⟩ | ⟨e0, e1, e2, e3, sl, half, e4, e5⟩ | ⟨e0, e1, e2⟩
  · simp only at e0 e1 e4 e5
    have e7 := e1.disk
    rw [e4, e5, hs.first, hs.each] at e7
    exact ⟨s', d', hsp, e1.live.dead, _, _, _, e7, .inl ⟨e0, rfl⟩⟩
  · simp only at e0 e2 e5
    rw [hs.first, hs.each] at e5
    rcases e5 with e5 | e5
    · exact ⟨s', d', hsp, e2.dead, _, _, _, e5, .inr ⟨e0, .inl rfl⟩⟩
    · exact ⟨s', d', hsp, e2.dead, _, _, _, e5, .inr ⟨e0, .inr rfl⟩⟩
  · omega

theorem rx_flush (h : SpF w0 w y a F s d) (hs : RxSt s d k now) (hk : k ≤ 1000) :
    Calls Try.prog 60 #[.pointer (some ⟨y, 0, none⟩)] w (RxDone w0 w y a F now) := by
  obtain ⟨q, hq⟩ := hs.inv
  have hf := hs.fail; have ht := hs.till; have hw := hs.works; have hm := hs.many; have htn := hs.turn
  obtain ⟨h1, h2, h3, h4⟩ := hq.flush (by omega) ht (by omega)
  have hc := sp_flush h.at_ hq (by rw [hq.many]; omega) (by omega) (by omega)
  refine hc.mono ?_
  rintro e w' ⟨rfl, F', g1, g2⟩
  exact ⟨_, F', rfl, rx_end hs h1 (h.step g1 g2), g2⟩

theorem rx_replace (h : SpF w0 w y a F s d) (hs : RxSt s d k now) (hk : k ≤ 1000) (A : Option Addr) (n c : Nat) (ps : List Part) (hB : BytessAt w A n c ps) (hsm : ∀ b ∈ texts ps, b.length ≤ 200) (hn : n ≤ 6) (hA : ∀ p, A = some p → 0 < n → p.block ∉ F) (hps : ∀ q ∈ ps, ∀ p, q.A = some p → 0 < q.n → p.block ∉ F) :
    Calls Try.prog 61 #[.pointer (some ⟨y, 0, none⟩), .slice A n c] w (RxDone w0 w y a F (texts ps)) := by
  obtain ⟨q, hq⟩ := hs.inv
  have hf := hs.fail; have ht := hs.till; have hw := hs.works; have hm := hs.many; have htn := hs.turn
  have hln : (texts ps).length = n := by rw [← hB.len]; simp [texts]
  have hal : ∀ l : List (List UInt8), (∀ b ∈ l, b.length ≤ 200) → allSize l ≤ 207 * l.length := by
    intro l
    induction l with
    | nil => intro _; simp [allSize]
    | cons b l ih =>
      intro hb
      have h1 := ih (fun c hc => hb c (List.mem_cons_of_mem _ hc))
      have h2 := hb b List.mem_cons_self
      rw [allSize_cons, List.length_cons]
      omega
  have hz := hal _ hsm
  have he := hs.each
  obtain ⟨h1, h2, h3, h4⟩ := hq.replace (by omega) ht (by omega) (l := texts ps) (fun b hb => by have := hsm b hb; omega) (by omega)
  have hc := sp_replace h.at_ hq (by omega) ht (by omega) (by omega) A n c ps hB (fun b hb => by have := hsm b hb; omega) (by omega) hA hps
  refine hc.mono ?_
  rintro e w' ⟨rfl, F', g1, g2⟩
  exact ⟨_, F', rfl, rx_end hs h1 (h.step g1 g2), g2⟩

/-- Refuse. -/
def RxRef (w0 w : World) (y a : Nat) (F : List Nat) (s : Sp) (d : Dev) (n : Int) (e : Ending) (w' : World) : Prop :=
  ∃ F', e = .returned (.int .i64 0) ∧ SpF w0 w' y a F' s { d with till := max n (-1) } ∧ Step F F' w w'

theorem rx_refuse (h : SpF w0 w y a F s d) (hd : d.dead = false) (n : Int) (h0 : -9223372036854775808 ≤ n) (h1 : n ≤ 9223372036854775807) : Calls Try.prog 32 #[.pointer (some ⟨a, 0, none⟩), .int .i64 n] w (RxRef w0 w y a F s d n) := by
  have e1 : d.refuse n = ({ d with till := max n (-1) }, 0) := by unfold Dev.refuse; rw [hd]; rfl
  have hc := h.at_.dvd (f := 32) (args := #[.pointer (some ⟨a, 0, none⟩), .int .i64 n]) (r := d.refuse n) (fun fp hD hF => refuse_dv hD n h0 h1)
  rw [e1] at hc
  refine hc.mono ?_
  rintro e w' ⟨rfl, F', g1, g2⟩
  exact ⟨F', rfl, h.step g1 g2, g2⟩

/-- Refuse, at the beginning. -/
def RxArm (w0 w : World) (y a : Nat) (F : List Nat) (e : Ending) (w' : World) : Prop :=
  ∃ F' s d, e = .returned (.int .i64 0) ∧ SpF w0 w' y a F' s d ∧ RxSt s d 1 sureB ∧ Step F F' w w'

theorem rx_arm {half t W : Nat} (h : SpK w0 w y a F 0 29 half sureB sureB 60 t W) (ht : t ≤ 10) (hW : W ≤ 3000) (n : Int) (h0 : -9223372036854775808 ≤ n) (h1 : n ≤ 9223372036854775807) : Calls Try.prog 32 #[.pointer (some ⟨a, 0, none⟩), .int .i64 n] w (RxArm w0 w y a F) := by
  obtain ⟨s, d, hs, hc, rfl, he, hf, hsf⟩ := h
  obtain ⟨q, hq⟩ := hc.inv
  have hl := hq.live
  refine (rx_refuse hs hl.dead n h0 h1).mono ?_
  rintro e w' ⟨F', rfl, g1, g2⟩
  have h2 := hc.turn; have h3 := hc.works
  exact ⟨F', s, _, rfl, g1, ⟨⟨q, hq.arm ⟨hl.dead, hl.size⟩ rfl hq.qs⟩, hc.fail, by show -1 ≤ max n (-1); omega, hf, he, by omega, by show d.works ≤ _; omega, by decide⟩, g2⟩

/-- Refuse, at the end. -/
def RxOff (w0 w : World) (y a : Nat) (F : List Nat) (want : List (List UInt8)) (n : Int) (e : Ending) (w' : World) : Prop :=
  ∃ F', e = .returned (.int .i64 0) ∧ RxAll w0 w' y a F' want n ∧ Step F F' w w'

theorem rx_off {want : List (List UInt8)} {n : Int} (h : RxAll w0 w y a F want n) : Calls Try.prog 32 #[.pointer (some ⟨a, 0, none⟩), .int .i64 (-1)] w (RxOff w0 w y a F want n) := by
  obtain ⟨s, d, hs, hd, sl, half, L, h1, h2⟩ := h
  refine (rx_refuse hs hd (-1) (by omega) (by omega)).mono ?_
  rintro e w' ⟨F', rfl, g1, g2⟩
  exact ⟨F', rfl, ⟨s, _, g1, hd, sl, half, L, h1.same h1.size rfl (fun i _ => rfl) h1.rows, h2⟩, g2⟩

/-- Opened again. -/
def RxOpen (w : World) (want : List (List UInt8)) (n : Int) (e : Ending) (w' : World) : Prop :=
  ∃ v A m c ps, e = .returned (.tuple #[v, .slice A m c, .int .i64 0]) ∧ Kept [] w w' ∧ BytessAt w' A m c ps ∧ (n = 0 ∧ texts ps = want ∨ n = 101 ∧ (texts ps = sureB ∨ texts ps = want))

theorem rx_open {want : List (List UInt8)} {n : Int} (h : RxAll w0 w y a F want n) : Calls Try.prog 58 #[.pointer (some ⟨a, 0, none⟩), .int .i64 0, .int .i64 60] w (RxOpen w want n) := by
  obtain ⟨s, d, hs, hd, sl, half, L, h1, h2⟩ := h
  obtain ⟨fp, hD, _⟩ := hs.dv
  have hth := h1.there
  refine (spool_ok hD hd h1 (first := 0) (sectors := 60) rfl (by omega) rfl (by omega)).mono ?_
  rintro e w' ⟨y, zs, zt, slp, stp, A, m, c, ps, rfl, hk', hP, hB, rfl, _⟩
  exact ⟨_, A, m, c, ps, rfl, hk', hB, h2⟩
end

/-- SpoolRefused's second loop. -/
def RxRel (w0 w1 : World) (y a : Nat) (F1 : List Nat) (l : List (List UInt8)) (g i : Value) (wr : World) : Prop :=
  ∃ (j : Nat) (n : Int) (F : List Nat), j ≤ l.length ∧ i = .int .i64 j ∧ g = .int .i64 n ∧ RxEnd w0 wr y a F (1 + j) (sureB ++ l.take j) n ∧ Step F1 F w1 wr
end Go.Proofs.Ytbnflbkaogpnbaa
