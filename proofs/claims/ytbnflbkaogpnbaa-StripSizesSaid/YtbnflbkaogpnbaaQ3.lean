/- A strip on a calm device, over a call that began in w0. -/
import Derived.Test.YtbnflbkaogpnbaaQ2
namespace Go.Proofs.Ytbnflbkaogpnbaa
open Go.RowKit

/-- What an Append that fits leaves. -/
structure FitsD (s : St) (d : Dev) (b : List UInt8) (s' : St) (d' : Dev) : Prop where
  first : s'.first = s.first
  many : s'.many = s.many
  fin : s'.fin = s.fin + (b.length + 7)
  secs : d'.secs.length = d.secs.length
  works : d'.works ≤ d.works + 1 + (b.length + 7)
  rest : ∀ i, i < s.first + s.fin / 128 ∨ s.first + s.many ≤ i → d'.secs[i]? = d.secs[i]?
  rows : (d'.bytesAt s.first).take s.fin = (d.bytesAt s.first).take s.fin
  sure : ∀ q, d.Sure q → d'.Sure q

def Fits (w : World) (z a : Nat) (F : List Nat) (s : St) (d : Dev) (l : List (List UInt8)) (b : List UInt8) (e : Ending) (w' : World) : Prop :=
  e = .returned (.int .i64 0) ∧ ∃ s' d' F', SdAt w' z a F' s' d' ∧ SInv s' d' (l ++ [b]) ∧ d'.Calm ∧ FitsD s d b s' d' ∧ Kept F w w' ∧ ∀ j ∈ F', j ∈ F ∨ w.heap.size ≤ j

theorem sd_fits {w : World} {z a : Nat} {F : List Nat} {s : St} {d : Dev} {l : List (List UInt8)} (h : SdAt w z a F s d) (hi : SInv s d l) (hd : d.Calm) (A : Option Addr) (n c : Nat) (b : List UInt8) (hb : SlAt w A n c (u8vs b)) (hA : A = none → c = 0)
    (hn : b.length ≤ 16384) (hr : s.fin + (b.length + 7) ≤ 128 * s.many) (hwk : d.works < 9223372036854000000) : Calls Try.prog 47 #[.pointer (some ⟨z, 0, none⟩), .slice A n c] w (Fits w z a F s d l b) := by
  obtain ⟨s', d', e1, g1, g2, g3, g4, g5, g6, g7, g8, g9, g10⟩ := hi.append hd hn hr
  have hc := sd_append h hi.wf A n c b hb hA hwk
  rw [e1] at hc
  refine hc.mono ?_
  rintro e w' ⟨rfl, F', k1, k2, k3⟩
  exact ⟨rfl, s', d', F', k1, g1, g2, ⟨g3, g4, g5, g6, g7, g8, g9, g10⟩, k2, k3⟩

theorem sd_full {w : World} {z a : Nat} {F : List Nat} {s : St} {d : Dev} (h : SdAt w z a F s d) (hw : s.Wf d) (A : Option Addr) (n c : Nat) (b : List UInt8) (hb : SlAt w A n c (u8vs b)) (hA : A = none → c = 0)
    (hn : b.length ≤ 16384) (hr : 128 * s.many < s.fin + (b.length + 7)) (hwk : d.works < 9223372036854000000) : Calls Try.prog 47 #[.pointer (some ⟨z, 0, none⟩), .slice A n c] w (SdPost w z a F s d 101) := by
  have hc := sd_append h hw A n c b hb hA hwk
  have e1 : s.append d b = (s, d, 101) := by unfold St.append; rw [if_neg (by omega), if_pos (by omega)]
  rw [e1] at hc
  exact hc

/-- The strip s with the records l on the calm device d, all of it new since w0. -/
structure Sd (w0 w : World) (z a : Nat) (s : St) (d : Dev) (l : List (List UInt8)) : Prop where
  at_ : ∃ F, SdAt w z a F s d ∧ ∀ j ∈ F, w0.heap.size ≤ j
  inv : SInv s d l
  calm : d.Calm
  kept : Kept [] w0 w

theorem Sd.next {w0 w w' : World} {z a : Nat} {s : St} {d : Dev} {l : List (List UInt8)} (h : Sd w0 w z a s d l) (hk : Kept [] w w') : Sd w0 w' z a s d l := by
  obtain ⟨F, h1, h2⟩ := h.at_
  exact ⟨⟨F, h1.new hk, h2⟩, h.inv, h.calm, h.kept.trans hk⟩

theorem Sd.dv {w0 w : World} {z a : Nat} {s : St} {d : Dev} {l : List (List UInt8)} (h : Sd w0 w z a s d l) : ∃ fp, Dv w a fp d ∧ ∀ j ∈ fp, w0.heap.size ≤ j := by
  obtain ⟨F, ⟨⟨fp, sp, h1, _, _, h4⟩, _⟩, h2⟩ := h.at_
  exact ⟨fp, h1, fun j hj => h2 j (h4 j (.inl hj))⟩

def SdFits (w0 : World) (z a : Nat) (s : St) (d : Dev) (l : List (List UInt8)) (b : List UInt8) (e : Ending) (w' : World) : Prop :=
  e = .returned (.int .i64 0) ∧ ∃ s' d', Sd w0 w' z a s' d' (l ++ [b]) ∧ FitsD s d b s' d'

theorem Sd.fits {w0 w : World} {z a : Nat} {s : St} {d : Dev} {l : List (List UInt8)} (h : Sd w0 w z a s d l) (A : Option Addr) (n c : Nat) (b : List UInt8) (hb : SlAt w A n c (u8vs b)) (hA : A = none → c = 0)
    (hn : b.length ≤ 16384) (hr : s.fin + (b.length + 7) ≤ 128 * s.many) (hwk : d.works < 9223372036854000000) : Calls Try.prog 47 #[.pointer (some ⟨z, 0, none⟩), .slice A n c] w (SdFits w0 z a s d l b) := by
  obtain ⟨F, h1, h2⟩ := h.at_
  refine (sd_fits h1 h.inv h.calm A n c b hb hA hn hr hwk).mono ?_
  rintro e w' ⟨rfl, s', d', F', k1, k2, k3, k4, k5, k6⟩
  refine ⟨rfl, s', d', ⟨⟨F', k1, fun j hj => ?_⟩, k2, k3, h.kept.trans' k5 (fun j hj => .inr (h2 j hj))⟩, k4⟩
  rcases k6 j hj with e | e
  · exact h2 j e
  · exact Nat.le_trans h.kept.size e

def SdSame (w0 : World) (z a : Nat) (s : St) (d : Dev) (l : List (List UInt8)) (n : Int) (e : Ending) (w' : World) : Prop := e = .returned (.int .i64 n) ∧ Sd w0 w' z a s d l

theorem Sd.full {w0 w : World} {z a : Nat} {s : St} {d : Dev} {l : List (List UInt8)} (h : Sd w0 w z a s d l) (A : Option Addr) (n c : Nat) (b : List UInt8) (hb : SlAt w A n c (u8vs b)) (hA : A = none → c = 0)
    (hn : b.length ≤ 16384) (hr : 128 * s.many < s.fin + (b.length + 7)) (hwk : d.works < 9223372036854000000) : Calls Try.prog 47 #[.pointer (some ⟨z, 0, none⟩), .slice A n c] w (SdSame w0 z a s d l 101) := by
  obtain ⟨F, h1, h2⟩ := h.at_
  refine (sd_full h1 h.inv.wf A n c b hb hA hn hr hwk).mono ?_
  rintro e w' ⟨rfl, F', k1, k5, k6⟩
  refine ⟨rfl, ⟨F', k1, fun j hj => ?_⟩, h.inv, h.calm, h.kept.trans' k5 (fun j hj => .inr (h2 j hj))⟩
  rcases k6 j hj with e | e
  · exact h2 j e
  · exact Nat.le_trans h.kept.size e

theorem Sd.fin {w0 w : World} {z a : Nat} {s : St} {d : Dev} {l : List (List UInt8)} (h : Sd w0 w z a s d l) : Calls Try.prog 48 #[.pointer (some ⟨z, 0, none⟩)] w fun e w' => e = .returned (.int .i64 s.fin) ∧ w = w' := by
  obtain ⟨F, h1, h2⟩ := h.at_
  exact sd_end h1

def SdLeft (w0 : World) (z a : Nat) (s : St) (d : Dev) (l : List (List UInt8)) (n : Int) (e : Ending) (w' : World) : Prop := e = .returned (.int .i64 n) ∧ Sd w0 w' z a s d l

theorem Sd.left {w0 w : World} {z a : Nat} {s : St} {d : Dev} {l : List (List UInt8)} (h : Sd w0 w z a s d l) : Calls Try.prog 50 #[.pointer (some ⟨z, 0, none⟩)] w (SdLeft w0 z a s d l (128 * s.many - s.fin)) := by
  obtain ⟨F, h1, h2⟩ := h.at_
  refine (sd_left h1 h.inv.wf).mono ?_
  rintro e w' ⟨rfl, q, rfl⟩
  exact ⟨rfl, h.next (Kept.drewN [] w q)⟩

def SdNew (w0 : World) (a : Nat) (d : Dev) (first many : Nat) (e : Ending) (w' : World) : Prop :=
  ∃ z s A c, e = .returned (.tuple #[.pointer (some ⟨z, 0, none⟩), .slice A 0 c, .int .i64 0]) ∧ Sd w0 w' z a s d [] ∧ s.first = first ∧ s.many = many ∧ s.fin = 0

theorem sd_open0 {w0 w : World} {a : Nat} {fp : List Nat} {d : Dev} (hD : Dv w a fp d) (hd : d.Calm) (hk : Kept [] w0 w) (hN : ∀ j ∈ fp, w0.heap.size ≤ j) {first many : Nat} (hm : 1 ≤ many) (hf : first + many ≤ d.secs.length) :
    Calls Try.prog 46 #[.pointer (some ⟨a, 0, none⟩), .int .i64 first, .int .i64 many, .int .i64 0] w (SdNew w0 a d first many) := by
  refine (open_ok hD hd (fin := 0) hm hf (by omega) (l := []) (by simp [Small]) (by simp [recs_nil])).mono ?_
  rintro e w' ⟨h0, z, F, A, n, c, ps, s, rfl, h1, h2, h3, h4, h5, h6, h7, h8, h9, _⟩
  have hn : n = 0 := by
    rw [← h1.len]
    have := congrArg List.length h2
    simpa [texts] using this
  subst hn
  refine ⟨z, s, A, c, rfl, ⟨⟨F, h3, fun j hj => ?_⟩, h4, hd, hk.trans h0⟩, h5, h6, h7⟩
  rcases h8 j hj with e | e
  · exact hN j e
  · exact Nat.le_trans hk.size e
theorem made_sl (w : World) (n : Nat) (hn : n ≤ maxLen) : SlAt (w.alloc (.cells (madeCells #[.int .u8 0] n) 5)) (some ⟨w.heap.size, 0, none⟩) n n (u8vs (List.replicate n 0)) := by
  have e : madeCells #[.int .u8 0] n = (u8vs (List.replicate n 0)).toArray := by
    apply Array.ext'
    rw [toList_madeCells_one]
    simp [u8vs, u8v]
  exact SlAt.blk (by rw [heap_alloc_new, e]) (by simp [u8vs]) hn

theorem strs_sl (w : World) (t : TypeId) (l : List (List UInt8)) (hn : l.length ≤ maxLen) : SlAt (w.alloc (.cells (l.map strV).toArray t)) (some ⟨w.heap.size, 0, none⟩) l.length l.length (l.map strV) :=
  SlAt.blk (heap_alloc_new _ _) (by simp) hn
end Go.Proofs.Ytbnflbkaogpnbaa
