/- Texts in one: Q1 Q2 Q3 Q4 A12. -/
import Derived.Test.YtbnflbkaogpnbaaVB
import Derived.Test.YtbnflbkaogpnbaaVC
import Derived.Lib.SlBytesRow
import Derived.Laws.BytesString
import Derived.Test.YtbnflbkaogpnbaaMD
import Derived.Lib.SlBytesConst
/- A strip on a device; Open where all is well. -/
namespace Go.Proofs.Ytbnflbkaogpnbaa
open Go.RowKit

/-- In w, at block z, the strip s on the device d at a; the blocks of both are among F. -/
structure SdAt (w : World) (z a : Nat) (F : List Nat) (s : St) (d : Dev) : Prop where
  parts : ∃ fp sp, Dv w a fp d ∧ StAt w z a sp s ∧ (∀ j ∈ sp, j ∉ fp) ∧ ∀ j, j ∈ fp ∨ j ∈ sp → j ∈ F
  lt : ∀ j ∈ F, j < w.heap.size

theorem SdAt.kept {w w' : World} {z a : Nat} {F G : List Nat} {s : St} {d : Dev} (h : SdAt w z a F s d) (hk : Kept G w w') (hG : ∀ j ∈ F, j ∉ G) : SdAt w' z a F s d := by
  obtain ⟨fp, sp, h1, h2, h3, h4⟩ := h.parts
  exact ⟨⟨fp, sp, h1.kept hk (fun j hj => hG j (h4 j (.inl hj))), h2.kept hk (fun j hj => hG j (h4 j (.inr hj))), h3, h4⟩, fun j hj => Nat.lt_of_lt_of_le (h.lt j hj) hk.size⟩

theorem SdAt.new {w w' : World} {z a : Nat} {F : List Nat} {s : St} {d : Dev} (h : SdAt w z a F s d) (hk : Kept [] w w') : SdAt w' z a F s d := h.kept hk (by simp)

/-- A deed on it: what it answers, the device and the strip behind it. -/
def SdPost (w : World) (z a : Nat) (F : List Nat) (s : St) (d : Dev) (n : Int) (e : Ending) (w' : World) : Prop :=
  e = .returned (.int .i64 n) ∧ ∃ F', SdAt w' z a F' s d ∧ Kept F w w' ∧ ∀ j ∈ F', j ∈ F ∨ w.heap.size ≤ j

theorem sd_append {w : World} {z a : Nat} {F : List Nat} {s : St} {d : Dev} (h : SdAt w z a F s d) (hw : s.Wf d) (A : Option Addr) (n c : Nat) (b : List UInt8) (hb : SlAt w A n c (u8vs b)) (hA : A = none → c = 0)
    (hwk : d.works < 9223372036854000000) : Calls Try.prog 47 #[.pointer (some ⟨z, 0, none⟩), .slice A n c] w (SdPost w z a F (s.append d b).1 (s.append d b).2.1 (s.append d b).2.2) := by
  obtain ⟨fp, sp, h1, h2, h3, h4⟩ := h.parts
  refine (append_any h1 h2 h3 hw A n c b hb hA hwk).mono ?_
  rintro e w' ⟨rfl, fp', sp', g1, g2, g3, g4, g5, g6⟩
  refine ⟨rfl, fp' ++ sp', ⟨⟨fp', sp', g1, g2, g6, fun j hj => by simpa using hj⟩, fun j hj => ?_⟩, g3.mono (fun i hi => .inl (h4 i (by simpa using hi))), fun j hj => ?_⟩
  · simp only [List.mem_append] at hj
    rcases hj with hj | hj
    · exact g1.lt j hj
    · exact g2.lt j hj
  · simp only [List.mem_append] at hj
    rcases hj with hj | hj
    · rcases g4 j hj with e | e
      · exact .inl (h4 j (.inl e))
      · exact .inr e
    · rcases g5 j hj with e | e
      · exact .inl (h4 j (.inr e))
      · exact .inr e

/-- A deed of the device. -/
theorem sd_dv {w : World} {z a : Nat} {F : List Nat} {s : St} {d : Dev} (h : SdAt w z a F s d) {f : FuncId} {args : Array Value} {r : Dev × Int} (hc : ∀ fp, Dv w a fp d → (∀ j ∈ fp, j ∈ F) → Calls Try.prog f args w (DvPost w a fp r)) : Calls Try.prog f args w (SdPost w z a F s r.1 r.2) := by
  obtain ⟨fp, sp, h1, h2, h3, h4⟩ := h.parts
  refine (hc fp h1 (fun j hj => h4 j (.inl hj))).mono ?_
  rintro e w' ⟨rfl, fp', g1, g2, g3⟩
  have g4 : ∀ j ∈ sp, j ∉ fp' := fun j hj hm => by
    rcases g3 j hm with e | e
    · exact h3 j hj e
    · have := h2.lt j hj; omega
  refine ⟨rfl, fp' ++ sp, ⟨⟨fp', sp, g1, h2.kept g2 h3, g4, fun j hj => by simpa using hj⟩, fun j hj => ?_⟩, g2.mono (fun i hi => .inl (h4 i (.inl hi))), fun j hj => ?_⟩
  · simp only [List.mem_append] at hj
    rcases hj with hj | hj
    · exact g1.lt j hj
    · exact Nat.lt_of_lt_of_le (h2.lt j hj) g2.size
  · simp only [List.mem_append] at hj
    rcases hj with hj | hj
    · rcases g3 j hj with e | e
      · exact .inl (h4 j (.inl e))
      · exact .inr e
    · exact .inl (h4 j (.inr hj))

theorem sd_end {w : World} {z a : Nat} {F : List Nat} {s : St} {d : Dev} (h : SdAt w z a F s d) : Calls Try.prog 48 #[.pointer (some ⟨z, 0, none⟩)] w fun e w' => e = .returned (.int .i64 s.fin) ∧ w = w' := by
  obtain ⟨fp, sp, h1, h2, h3, h4⟩ := h.parts
  exact stripEnd_any h2

theorem sd_left {w : World} {z a : Nat} {F : List Nat} {s : St} {d : Dev} (h : SdAt w z a F s d) (hw : s.Wf d) : Calls Try.prog 50 #[.pointer (some ⟨z, 0, none⟩)] w (LeftPost w (128 * s.many - s.fin)) := by
  obtain ⟨fp, sp, h1, h2, h3, h4⟩ := h.parts
  exact stripLeft_any h2 (by have h5 := hw.there; have h6 := h1.wf.many; omega) hw.fin

theorem Dev.Calm.at0 {d : Dev} (h : d.Calm) {i : Int} (h0 : 0 ≤ i) (h1 : i < d.secs.length) : d.at_ i = 0 := by
  unfold Dev.at_
  rw [h.dead, if_neg (by simp), if_neg (by omega)]

/-- Open, where there are records. -/
def OpenOk (w : World) (a : Nat) (fp : List Nat) (d : Dev) (first many fin : Nat) (l : List (List UInt8)) (e : Ending) (w' : World) : Prop :=
  Kept [] w w' ∧ ∃ (z : Nat) (F : List Nat) (A : Option Addr) (n c : Nat) (ps : List Part) (s : St), e = .returned (.tuple #[.pointer (some ⟨z, 0, none⟩), .slice A n c, .int .i64 0]) ∧ BytessAt w' A n c ps ∧ texts ps = l ∧ SdAt w' z a F s d ∧ SInv s d l ∧
    s.first = first ∧ s.many = many ∧ s.fin = fin ∧ (∀ j ∈ F, j ∈ fp ∨ w.heap.size ≤ j) ∧ (∀ j ∈ fp, j ∈ F) ∧ (∀ p, A = some p → w.heap.size ≤ p.block ∧ p.block ∉ F) ∧ ∀ q ∈ ps, ∀ p, q.A = some p → w.heap.size ≤ p.block ∧ p.block ∉ F

theorem openBad_zero {d : Dev} (hd : d.Calm) {first many fin : Nat} (hm : 1 ≤ many) (hf : first + many ≤ d.secs.length) (he : fin ≤ 128 * many) : openBad d first many fin = 0 := by
  unfold openBad
  rw [hd.at0 (Int.le_refl 0) (by omega), if_neg (by simp), if_neg (by omega), if_neg (by omega)]

theorem bytesAt_len {d : Dev} (hd : d.Calm) (first : Nat) : (d.bytesAt first).length = 128 * (d.secs.length - first) := by
  unfold Dev.bytesAt
  rw [flatten_len _ (fun b hb => hd.size b (List.mem_of_mem_drop hb)), List.length_drop]

theorem open_ok {w : World} {a : Nat} {fp : List Nat} {d : Dev} (hD : Dv w a fp d) (hd : d.Calm) {first many fin : Nat} (hm : 1 ≤ many) (hf : first + many ≤ d.secs.length) (he : fin ≤ 128 * many) {l : List (List UInt8)} (hl : Small l) (hr : (d.bytesAt first).take fin = recs l) :
    Calls Try.prog 46 #[.pointer (some ⟨a, 0, none⟩), .int .i64 first, .int .i64 many, .int .i64 fin] w (OpenOk w a fp d first many fin l) := by
  have hb := openBad_zero hd hm hf he
  have hmx := hD.wf.many
  refine (open_any hD first many fin (by unfold I64; omega) (by unfold I64; omega) (by unfold I64; omega)).mono ?_
  simp only [OpenPost, Int.toNat_natCast, hb]
  rintro e w' ⟨hk, ⟨h, _⟩ | ⟨_, h, _⟩ | ⟨_, z, sp, A, n, c, ps, rfl, h1, h2, h3, h4, h5, h6, h7⟩⟩
  · exact absurd rfl h
  · exact absurd hr (h l hl)
  · have e1 : texts ps = l := recs_inj h2 hl (by rw [← h3, hr])
    have hne : ∀ j ∈ sp, j ∉ fp := fun j hj hm => by have := h5 j hj; have := hD.lt j hm; omega
    refine ⟨hk, z, fp ++ sp, A, n, c, ps, _, rfl, h1, e1, ⟨⟨fp, sp, hD.new_kept hk, h4, hne, fun j hj => by simpa using hj⟩, fun j hj => ?_⟩, ⟨⟨hm, hf, he, ?_⟩, rfl, hl, hr⟩, rfl, rfl, rfl, fun j hj => ?_, fun j hj => by simp [hj], fun p e => ⟨(h6 p e).1, fun hm => ?_⟩, fun q hq p e => ⟨(h7 q hq p e).1, fun hm => ?_⟩⟩
    · simp only [List.mem_append] at hj
      rcases hj with hj | hj
      · exact Nat.lt_of_lt_of_le (hD.lt j hj) hk.size
      · exact h4.lt j hj
    · show (((d.bytesAt first).take fin).drop (fin - fin % 128)).length = fin % 128
      rw [List.length_drop, List.length_take, bytesAt_len hd]
      omega
    · simp only [List.mem_append] at hj
      rcases hj with hj | hj
      · exact .inl hj
      · exact .inr (h5 j hj)
    · simp only [List.mem_append] at hm
      rcases hm with hm | hm
      · have := hD.lt _ hm; have := (h6 p e).1; omega
      · exact (h6 p e).2 hm
    · simp only [List.mem_append] at hm
      rcases hm with hm | hm
      · have := hD.lt _ hm; have := (h7 q hq p e).1; omega
      · exact (h7 q hq p e).2 hm

/-- Open that answers an error. -/
def OpenErr (w : World) (n : Int) (e : Ending) (w' : World) : Prop := e = .returned (.tuple #[.pointer none, .slice none 0 0, .int .i64 n]) ∧ Kept [] w w'

theorem open_no {w : World} {a : Nat} {fp : List Nat} {d : Dev} (hD : Dv w a fp d) (hd : d.Calm) {first many fin : Nat} (hm : 1 ≤ many) (hf : first + many ≤ d.secs.length) (he : fin ≤ 128 * many) (hr : NoRecs ((d.bytesAt first).take fin)) :
    Calls Try.prog 46 #[.pointer (some ⟨a, 0, none⟩), .int .i64 first, .int .i64 many, .int .i64 fin] w (OpenErr w 110) := by
  have hb := openBad_zero hd hm hf he
  have hmx := hD.wf.many
  refine (open_any hD first many fin (by unfold I64; omega) (by unfold I64; omega) (by unfold I64; omega)).mono ?_
  simp only [OpenPost, Int.toNat_natCast, hb]
  rintro e w' ⟨hk, ⟨h, _⟩ | ⟨_, _, rfl⟩ | ⟨_, z, sp, A, n, c, ps, rfl, h1, h2, h3, _⟩⟩
  · exact absurd rfl h
  · exact ⟨rfl, hk⟩
  · exact absurd h3 (hr _ h2)

theorem open_bad {w : World} {a : Nat} {fp : List Nat} {d : Dev} (hD : Dv w a fp d) (first many fin : Int) (h1 : I64 first) (h2 : I64 many) (h3 : I64 fin) {n : Int} (hb : openBad d first many fin = n) (h0 : n ≠ 0) :
    Calls Try.prog 46 #[.pointer (some ⟨a, 0, none⟩), .int .i64 first, .int .i64 many, .int .i64 fin] w (OpenErr w n) := by
  refine (open_any hD first many fin h1 h2 h3).mono ?_
  simp only [OpenPost, hb]
  rintro e w' ⟨hk, ⟨_, rfl⟩ | ⟨h, _⟩ | ⟨h, _⟩⟩
  · exact ⟨rfl, hk⟩
  · exact absurd h h0
  · exact absurd h h0
end Go.Proofs.Ytbnflbkaogpnbaa

/- muslinlaw12.opens. -/
namespace Go.Proofs.Ytbnflbkaogpnbaa
open Go.RowKit

def strV (b : List UInt8) : Value := .string ⟨b.toArray⟩

theorem run_str {w : World} {A : Option Addr} {n c : Nat} {xs : List UInt8} (h : SlAt w A n c (u8vs xs)) : (convert 34 9 (.slice A n c)).run Try.prog w = .ok (strV xs) w := by
  have hl : xs.length = n := by simpa [u8vs] using h.len
  by_cases hn : n = 0
  · subst hn
    obtain rfl : xs = [] := List.length_eq_zero_iff.1 hl
    rw [run_convert_bytes_string w _ _ _ A 0 c Try.underlying34 Try.underlying5 Try.underlying9]
    cases A with
    | none => simp [Conv.bytesToString, strV]; rfl
    | some p =>
      rw [run_bytesToString w p 0 c [] (by simp [loadCells, loadCellsFrom])]
      rfl
  · obtain ⟨b, o, rfl, hb, hc⟩ := h.cells (by omega)
    have hs : (⟨xs.toArray⟩ : ByteArray).size = n := by simp [ByteArray.size, hl]
    have h2 := Lib.run_convert_whole (P := Try.prog) w 34 5 9 Try.underlying34 Try.underlying5 Try.underlying9 b o ⟨xs.toArray⟩ (fun i hi => ?_) c
    · rw [hs] at h2
      exact h2
    · rw [hs] at hi
      rw [hc i hi]
      simp only [u8vs, List.getElem?_map, List.getElem?_eq_getElem (show i < xs.length by omega)]
      rfl

def TrueKept (w : World) (e : Ending) (w' : World) : Prop := e = .returned (.bool true) ∧ Kept [] w w'

set_option maxHeartbeats 1000000 in
theorem opens_ok {w : World} {a : Nat} {fp : List Nat} {d : Dev} (hD : Dv w a fp d) (hd : d.Calm) {fin : Nat} (hf : 4 ≤ d.secs.length) (he : fin ≤ 384) {l : List (List UInt8)} (hl : Small l) (hr : (d.bytesAt 1).take fin = recs l)
    (A : Option Addr) (n c : Nat) (hs : SlAt w A n c (l.map strV)) : Calls Try.prog 83 #[.pointer (some ⟨a, 0, none⟩), .int .i64 fin, .int .i64 0, .slice A n c] w (TrueKept w) := by
  have hln : l.length = n := by simpa using hs.len
  have co := open_ok hD hd (first := 1) (many := 3) (fin := fin) (by omega) (by omega) (by omega) hl hr
  have hc := hs.le; have hcm := hs.max
  unfold maxLen at hcm
  have HLN := Lib.hid hln
  clear hln hr
  go_enter Try.func83, Try.ntmps83
  go_wp2_with (go_at_call 46; refine co.mono ?_; rintro e w1 ⟨hk1, z, F, A1, n1, c1, ps, s, rfl, hb1, htx, _⟩; have hn1 : n1 = n := (by rw [← HLN.out, ← htx]; simp [texts, hb1.len]); subst hn1; have HTX := Lib.hid htx; clear htx)
  have hs1 := hs.kept hk1 (by simp)
  go_loopw [12] (fun i wr => ∃ k q : Nat, k ≤ n1 ∧ i = .int .i64 k ∧ wr = w1.drewN q) (fun i _ => n1 - (intOf i).toNat)
  case atStart => exact ⟨0, 0, Nat.zero_le _, rfl, rfl⟩
  case round =>
    obtain ⟨k, q, hk, rfl, rfl⟩ := hrel
    have hb1n := hb1.le; have hb1m := hb1.max
    unfold maxLen at hb1m
    by_cases hlt : k < n1
    · obtain ⟨b, o, p, rfl, hbl, hpl, hpa, hcx⟩ := hb1.at_ hlt
      obtain ⟨b', o', rfl, hbl', hcs⟩ := hs1.cells (by omega)
      have hpx : l[k]? = some p.xs := by rw [← HTX.out, texts, List.getElem?_map, hpl]; rfl
      have hcy : w1.cell? ⟨b', o' + k, none⟩ = some (.string ⟨p.xs.toArray⟩) := by rw [hcs k hlt, List.getElem?_map, hpx]; rfl
      have hcv : ∀ i, (convert 34 9 (.slice p.A p.n p.c)).run Try.prog ((w1.drewN q).drewN i) = .ok (.string ⟨p.xs.toArray⟩) ((w1.drewN q).drewN i) := fun i => run_str ((hpa.drewN q).drewN i).1
      have hcv0 : ∀ i, (convert 34 9 (.slice p.A p.n p.c)).run Try.prog (w1.drewN i) = .ok (.string ⟨p.xs.toArray⟩) (w1.drewN i) := fun i => run_str (hpa.drewN i).1
      have h2 : (k : Int) < (n1 : Int) := by omega
      clear hpl hpx hcs
      go_wp2
      go_quiet (fail)
      go_wp2
      go_roundw
      case rel => exact ⟨k + 1, _, by omega, by go_num, by first | rfl | rw [World.drewN_drewN]⟩
      case measure => simp [intOf]; omega
    · have h2 : ¬ (k : Int) < (n1 : Int) := by omega
      go_wp2
      go_ret
      exact ⟨rfl, hk1.trans (Kept.drewN [] _ _)⟩

set_option maxHeartbeats 1000000 in
theorem opens_no {w : World} {a : Nat} {fp : List Nat} {d : Dev} (hD : Dv w a fp d) (hd : d.Calm) {fin : Nat} (hf : 4 ≤ d.secs.length) (he : fin ≤ 384) (hr : NoRecs ((d.bytesAt 1).take fin)) :
    Calls Try.prog 83 #[.pointer (some ⟨a, 0, none⟩), .int .i64 fin, .int .i64 110, .slice none 0 0] w (TrueKept w) := by
  have co := open_no hD hd (first := 1) (many := 3) (fin := fin) (by omega) (by omega) (by omega) hr
  go_enter Try.func83, Try.ntmps83
  go_wp2_with (go_at_call 46; refine co.mono ?_; rintro e w1 ⟨rfl, hk1⟩)
  go_loopw [12] (fun i wr => i = .int .i64 0 ∧ wr = w1) (fun i _ => 0)
  case atStart => exact ⟨rfl, rfl⟩
  case round =>
    obtain ⟨rfl, rfl⟩ := hrel
    go_wp2
    go_ret
    exact ⟨rfl, hk1⟩
end Go.Proofs.Ytbnflbkaogpnbaa

/- A strip on a calm device, over a call that began in w0. -/
namespace Go.Proofs.Ytbnflbkaogpnbaa
open Go.RowKit

/-- What an Append that fits leaves. -/
structure FitsD (s : St) (d : Dev) (b : List UInt8) (s' : St) (d' : Dev) : Prop where
  first : s'.first = s.first
  many : s'.many = s.many
  fin : s'.fin = s.fin + (b.length + 7)
  secs : d'.secs.length = d.secs.length
  works : d'.works ≤ d.works + 1 + (b.length + 7)
  rest : ∀ i, i < s.first + s.fin / 128 ∨ s.first + s.many ≤ i → d'.secs[i]? = d.secs[i]?
  rows : (d'.bytesAt s.first).take s.fin = (d.bytesAt s.first).take s.fin
  sure : ∀ q, d.Sure q → d'.Sure q

def Fits (w : World) (z a : Nat) (F : List Nat) (s : St) (d : Dev) (l : List (List UInt8)) (b : List UInt8) (e : Ending) (w' : World) : Prop :=
  e = .returned (.int .i64 0) ∧ ∃ s' d' F', SdAt w' z a F' s' d' ∧ SInv s' d' (l ++ [b]) ∧ d'.Calm ∧ FitsD s d b s' d' ∧ Kept F w w' ∧ ∀ j ∈ F', j ∈ F ∨ w.heap.size ≤ j

theorem sd_fits {w : World} {z a : Nat} {F : List Nat} {s : St} {d : Dev} {l : List (List UInt8)} (h : SdAt w z a F s d) (hi : SInv s d l) (hd : d.Calm) (A : Option Addr) (n c : Nat) (b : List UInt8) (hb : SlAt w A n c (u8vs b)) (hA : A = none → c = 0)
    (hn : b.length ≤ 16384) (hr : s.fin + (b.length + 7) ≤ 128 * s.many) (hwk : d.works < 9223372036854000000) : Calls Try.prog 47 #[.pointer (some ⟨z, 0, none⟩), .slice A n c] w (Fits w z a F s d l b) := by
  obtain ⟨s', d', e1, g1, g2, g3, g4, g5, g6, g7, g8, g9, g10⟩ := hi.append hd hn hr
  have hc := sd_append h hi.wf A n c b hb hA hwk
  rw [e1] at hc
  refine hc.mono ?_
  rintro e w' ⟨rfl, F', k1, k2, k3⟩
  exact ⟨rfl, s', d', F', k1, g1, g2, ⟨g3, g4, g5, g6, g7, g8, g9, g10⟩, k2, k3⟩

theorem sd_full {w : World} {z a : Nat} {F : List Nat} {s : St} {d : Dev} (h : SdAt w z a F s d) (hw : s.Wf d) (A : Option Addr) (n c : Nat) (b : List UInt8) (hb : SlAt w A n c (u8vs b)) (hA : A = none → c = 0)
    (hn : b.length ≤ 16384) (hr : 128 * s.many < s.fin + (b.length + 7)) (hwk : d.works < 9223372036854000000) : Calls Try.prog 47 #[.pointer (some ⟨z, 0, none⟩), .slice A n c] w (SdPost w z a F s d 101) := by
  have hc := sd_append h hw A n c b hb hA hwk
  have e1 : s.append d b = (s, d, 101) := by unfold St.append; rw [if_neg (by omega), if_pos (by omega)]
  rw [e1] at hc
  exact hc

/-- The strip s with the records l on the calm device d, all of it new since w0. -/
structure Sd (w0 w : World) (z a : Nat) (s : St) (d : Dev) (l : List (List UInt8)) : Prop where
  at_ : ∃ F, SdAt w z a F s d ∧ ∀ j ∈ F, w0.heap.size ≤ j
  inv : SInv s d l
  calm : d.Calm
  kept : Kept [] w0 w

theorem Sd.next {w0 w w' : World} {z a : Nat} {s : St} {d : Dev} {l : List (List UInt8)} (h : Sd w0 w z a s d l) (hk : Kept [] w w') : Sd w0 w' z a s d l := by
  obtain ⟨F, h1, h2⟩ := h.at_
  exact ⟨⟨F, h1.new hk, h2⟩, h.inv, h.calm, h.kept.trans hk⟩

theorem Sd.dv {w0 w : World} {z a : Nat} {s : St} {d : Dev} {l : List (List UInt8)} (h : Sd w0 w z a s d l) : ∃ fp, Dv w a fp d ∧ ∀ j ∈ fp, w0.heap.size ≤ j := by
  obtain ⟨F, ⟨⟨fp, sp, h1, _, _, h4⟩, _⟩, h2⟩ := h.at_
  exact ⟨fp, h1, fun j hj => h2 j (h4 j (.inl hj))⟩

def SdFits (w0 : World) (z a : Nat) (s : St) (d : Dev) (l : List (List UInt8)) (b : List UInt8) (e : Ending) (w' : World) : Prop :=
  e = .returned (.int .i64 0) ∧ ∃ s' d', Sd w0 w' z a s' d' (l ++ [b]) ∧ FitsD s d b s' d'

theorem Sd.fits {w0 w : World} {z a : Nat} {s : St} {d : Dev} {l : List (List UInt8)} (h : Sd w0 w z a s d l) (A : Option Addr) (n c : Nat) (b : List UInt8) (hb : SlAt w A n c (u8vs b)) (hA : A = none → c = 0)
    (hn : b.length ≤ 16384) (hr : s.fin + (b.length + 7) ≤ 128 * s.many) (hwk : d.works < 9223372036854000000) : Calls Try.prog 47 #[.pointer (some ⟨z, 0, none⟩), .slice A n c] w (SdFits w0 z a s d l b) := by
  obtain ⟨F, h1, h2⟩ := h.at_
  refine (sd_fits h1 h.inv h.calm A n c b hb hA hn hr hwk).mono ?_
  rintro e w' ⟨rfl, s', d', F', k1, k2, k3, k4, k5, k6⟩
  refine ⟨rfl, s', d', ⟨⟨F', k1, fun j hj => ?_⟩, k2, k3, h.kept.trans' k5 (fun j hj => .inr (h2 j hj))⟩, k4⟩
  rcases k6 j hj with e | e
  · exact h2 j e
  · exact Nat.le_trans h.kept.size e

def SdSame (w0 : World) (z a : Nat) (s : St) (d : Dev) (l : List (List UInt8)) (n : Int) (e : Ending) (w' : World) : Prop := e = .returned (.int .i64 n) ∧ Sd w0 w' z a s d l

theorem Sd.full {w0 w : World} {z a : Nat} {s : St} {d : Dev} {l : List (List UInt8)} (h : Sd w0 w z a s d l) (A : Option Addr) (n c : Nat) (b : List UInt8) (hb : SlAt w A n c (u8vs b)) (hA : A = none → c = 0)
    (hn : b.length ≤ 16384) (hr : 128 * s.many < s.fin + (b.length + 7)) (hwk : d.works < 9223372036854000000) : Calls Try.prog 47 #[.pointer (some ⟨z, 0, none⟩), .slice A n c] w (SdSame w0 z a s d l 101) := by
  obtain ⟨F, h1, h2⟩ := h.at_
  refine (sd_full h1 h.inv.wf A n c b hb hA hn hr hwk).mono ?_
  rintro e w' ⟨rfl, F', k1, k5, k6⟩
  refine ⟨rfl, ⟨F', k1, fun j hj => ?_⟩, h.inv, h.calm, h.kept.trans' k5 (fun j hj => .inr (h2 j hj))⟩
  rcases k6 j hj with e | e
  · exact h2 j e
  · exact Nat.le_trans h.kept.size e

theorem Sd.fin {w0 w : World} {z a : Nat} {s : St} {d : Dev} {l : List (List UInt8)} (h : Sd w0 w z a s d l) : Calls Try.prog 48 #[.pointer (some ⟨z, 0, none⟩)] w fun e w' => e = .returned (.int .i64 s.fin) ∧ w = w' := by
  obtain ⟨F, h1, h2⟩ := h.at_
  exact sd_end h1

def SdLeft (w0 : World) (z a : Nat) (s : St) (d : Dev) (l : List (List UInt8)) (n : Int) (e : Ending) (w' : World) : Prop := e = .returned (.int .i64 n) ∧ Sd w0 w' z a s d l

theorem Sd.left {w0 w : World} {z a : Nat} {s : St} {d : Dev} {l : List (List UInt8)} (h : Sd w0 w z a s d l) : Calls Try.prog 50 #[.pointer (some ⟨z, 0, none⟩)] w (SdLeft w0 z a s d l (128 * s.many - s.fin)) := by
  obtain ⟨F, h1, h2⟩ := h.at_
  refine (sd_left h1 h.inv.wf).mono ?_
  rintro e w' ⟨rfl, q, rfl⟩
  exact ⟨rfl, h.next (Kept.drewN [] w q)⟩

def SdNew (w0 : World) (a : Nat) (d : Dev) (first many : Nat) (e : Ending) (w' : World) : Prop :=
  ∃ z s A c, e = .returned (.tuple #[.pointer (some ⟨z, 0, none⟩), .slice A 0 c, .int .i64 0]) ∧ Sd w0 w' z a s d [] ∧ s.first = first ∧ s.many = many ∧ s.fin = 0

theorem sd_open0 {w0 w : World} {a : Nat} {fp : List Nat} {d : Dev} (hD : Dv w a fp d) (hd : d.Calm) (hk : Kept [] w0 w) (hN : ∀ j ∈ fp, w0.heap.size ≤ j) {first many : Nat} (hm : 1 ≤ many) (hf : first + many ≤ d.secs.length) :
    Calls Try.prog 46 #[.pointer (some ⟨a, 0, none⟩), .int .i64 first, .int .i64 many, .int .i64 0] w (SdNew w0 a d first many) := by
  refine (open_ok hD hd (fin := 0) hm hf (by omega) (l := []) (by simp [Small]) (by simp [recs_nil])).mono ?_
  rintro e w' ⟨h0, z, F, A, n, c, ps, s, rfl, h1, h2, h3, h4, h5, h6, h7, h8, h9, _⟩
  have hn : n = 0 := by
    rw [← h1.len]
    have := congrArg List.length h2
    simpa [texts] using this
  subst hn
  refine ⟨z, s, A, c, rfl, ⟨⟨F, h3, fun j hj => ?_⟩, h4, hd, hk.trans h0⟩, h5, h6, h7⟩
  rcases h8 j hj with e | e
  · exact hN j e
  · exact Nat.le_trans hk.size e
theorem made_sl (w : World) (n : Nat) (hn : n ≤ maxLen) : SlAt (w.alloc (.cells (madeCells #[.int .u8 0] n) 5)) (some ⟨w.heap.size, 0, none⟩) n n (u8vs (List.replicate n 0)) := by
  have e : madeCells #[.int .u8 0] n = (u8vs (List.replicate n 0)).toArray := by
    apply Array.ext'
    rw [toList_madeCells_one]
    simp [u8vs, u8v]
  exact SlAt.blk (by rw [heap_alloc_new, e]) (by simp [u8vs]) hn

theorem strs_sl (w : World) (t : TypeId) (l : List (List UInt8)) (hn : l.length ≤ maxLen) : SlAt (w.alloc (.cells (l.map strV).toArray t)) (some ⟨w.heap.size, 0, none⟩) l.length l.length (l.map strV) :=
  SlAt.blk (heap_alloc_new _ _) (by simp) hn
end Go.Proofs.Ytbnflbkaogpnbaa

/- The examples of chapter 12: awake. -/
namespace Go.Proofs.Ytbnflbkaogpnbaa
open Go.RowKit

def abc : List UInt8 := [97, 98, 99]

theorem recs_abc : recs [abc, []] = recB abc ++ recB [] := by simp [recs]

theorem new_calm (n : Nat) : (Dev.new n).Calm := Dev.Calm.new n

set_option maxHeartbeats 4000000 in
set_option maxRecDepth 100000 in
theorem awake12_any (w : World) : Calls Try.prog 45 #[] w (TruePost w) := by
  obtain ⟨j0, hj0, ju0, ju1, ju2⟩ := info_parts info_u8
  have hm1 := fun wx : World => run_make (P := Try.prog) wx 34 5 j0 _ Try.underlying34 hj0 ju0 .i64 .i64 361 361 (by omega) (Int.le_refl _) (by rw [ju2]; omega) (by omega)
  have hm2 := fun wx : World => run_make (P := Try.prog) wx 34 5 j0 _ Try.underlying34 hj0 ju0 .i64 .i64 360 360 (by omega) (Int.le_refl _) (by rw [ju2]; omega) (by omega)
  simp only [ju1, show Int.toNat 361 = 361 from rfl, show Int.toNat 360 = 360 from rfl, Nat.mul_one, show (Value.int .u8 0).cells = #[.int .u8 0] from rfl] at hm1 hm2
  have kc := fun (w : World) (C : Array Value) (n c : Nat) => Lib.run_convert_bytes_const (P := Try.prog) w 34 5 C n c Try.underlying34 Try.underlying5
  go_enter Try.func45, Try.ntmps45
  go_wp2_with fail
  refine (new_any 4 _ (by omega) (by omega)).mono ?_
  rintro e w1 ⟨a, f1, rfl, hD1, hA1, hN1⟩
  go_wp2_with fail
  refine (sd_open0 hD1 (new_calm 4) hA1 hN1 (first := 1) (many := 3) (by omega) (by simp [Dev.new])).mono ?_
  rintro e w2 ⟨z, s, A, c, rfl, h2, e1, e2, e3⟩
  have E1 := Lib.hid e1; have E2 := Lib.hid e2; have E3 := Lib.hid e3
  clear e1 e2 e3 hD1
  go_wp2_with fail
  refine ((h2.next (Kept.alloc [] w2 (.cells #[.int .u8 97, .int .u8 98, .int .u8 99] 5 (3, 4)))).fits _ 3 3 abc (SlAt.blk (heap_alloc_new _ _) rfl (by unfold maxLen; omega)) (fun e => by cases e) (by decide) (by rw [E3.out, E2.out]; decide) (by decide)).mono ?_
  rintro e w3 ⟨rfl, s1, d1, h3, k1⟩
  have n1 : s1.first = 1 ∧ s1.many = 3 ∧ s1.fin = 10 ∧ d1.secs.length = 4 ∧ d1.works ≤ 11 := ⟨by rw [k1.first, E1.out], by rw [k1.many, E2.out], by rw [k1.fin, E3.out]; rfl, by rw [k1.secs]; rfl, by have := k1.works; exact this⟩
  have N1 := Lib.hid n1
  clear n1 k1 h2 hA1 hN1 E1 E2 E3
  go_wp2_with fail
  refine (h3.fits none 0 0 [] ⟨rfl, Nat.le_refl _, by unfold maxLen; omega, fun h => by omega⟩ (fun _ => rfl) (by decide) (by rw [N1.out.2.2.1, N1.out.2.1]; decide) (by have := N1.out.2.2.2.2; omega)).mono ?_
  rintro e w4 ⟨rfl, s2, d2, h4, k2⟩
  have n2 : s2.first = 1 ∧ s2.many = 3 ∧ s2.fin = 17 ∧ d2.secs.length = 4 ∧ d2.works ≤ 20 := ⟨by rw [k2.first, N1.out.1], by rw [k2.many, N1.out.2.1], by rw [k2.fin, N1.out.2.2.1]; rfl, by rw [k2.secs, N1.out.2.2.2.1], by have := k2.works; have := N1.out.2.2.2.2; simp only [List.length_nil] at *; omega⟩
  have N2 := Lib.hid n2
  clear n2 k2 h3 N1
  have hfin := h4.fin
  rw [N2.out.2.2.1] at hfin
  go_wp2_with fail
  refine hfin.mono ?_
  rintro e w5 ⟨rfl, rfl⟩
  have hleft := h4.left
  rw [N2.out.2.2.1, N2.out.2.1] at hleft
  clear hfin
  go_wp2_with fail
  refine hleft.mono ?_
  rintro e w5 ⟨rfl, h5⟩
  clear hleft h4
  have hrow := h5.inv.rows
  rw [N2.out.1, N2.out.2.2.1] at hrow
  have hsm : Small [abc, []] := by simp [Small, abc]
  have hrow2 : (d2.bytesAt 1).take 17 = recs [abc, []] := hrow
  have hlen : (recs [abc, []]).length = 17 := by decide
  have hr10 : (d2.bytesAt 1).take 10 = recs [abc] := by
    have h1 : ((d2.bytesAt 1).take 17).take 10 = (d2.bytesAt 1).take 10 := by rw [List.take_take]; rfl
    rw [← h1, hrow2]
    decide
  have hr11 : NoRecs ((d2.bytesAt 1).take 11) := by
    have h1 : ((d2.bytesAt 1).take 17).take 11 = (d2.bytesAt 1).take 11 := by rw [List.take_take]; rfl
    rw [← h1, hrow2]
    rcases recs_take hsm (n := 11) (by rw [hlen]; decide) with ⟨i, hi, e, _⟩ | ⟨h, _⟩
    · exfalso
      have hi2 : i = 0 ∨ i = 1 ∨ i = 2 := by simp at hi; omega
      rcases hi2 with rfl | rfl | rfl <;> revert e <;> decide
    · exact h
  have HR0 := Lib.hid hrow2; have HR1 := Lib.hid hr10
  clear hrow hrow2 hr10
  go_wp2_with fail
  have h5a := h5.next (Kept.alloc [] w5 (.cells #[.string ⟨#[97, 98, 99]⟩, .string ⟨#[]⟩] 9))
  obtain ⟨fa, hDa, _⟩ := h5a.dv
  refine (opens_ok hDa h5a.calm (fin := 17) (by rw [N2.out.2.2.2.1]; omega) (by omega) hsm HR0.out _ 2 2 (strs_sl w5 9 [abc, []] (by unfold maxLen; simp))).mono ?_
  rintro e w6 ⟨rfl, hk6⟩
  have h6 := h5a.next hk6
  clear h5 h5a hDa hk6
  go_wp2_with fail
  have h6a := h6.next (Kept.alloc [] w6 (.cells #[.string ⟨#[97, 98, 99]⟩] 9))
  obtain ⟨fb, hDb, _⟩ := h6a.dv
  refine (opens_ok hDb h6a.calm (fin := 10) (by rw [N2.out.2.2.2.1]; omega) (by omega) (Small.one (by decide)) HR1.out _ 1 1 (strs_sl w6 9 [abc] (by unfold maxLen; simp))).mono ?_
  rintro e w7 ⟨rfl, hk7⟩
  have h7 := h6a.next hk7
  clear h6 h6a hDb hk7
  go_wp2_with fail
  obtain ⟨fc, hDc, _⟩ := h7.dv
  refine (opens_no hDc h7.calm (fin := 11) (by rw [N2.out.2.2.2.1]; omega) (by omega) hr11).mono ?_
  rintro e w8 ⟨rfl, hk8⟩
  have h8 := h7.next hk8
  clear h7 hDc hk8
  have hz : d2.at_ 0 = 0 := h8.calm.at0 (Int.le_refl 0) (by rw [N2.out.2.2.2.1]; decide)
  have hb1 : openBad d2 2 3 0 = 9 := by unfold openBad; rw [hz, if_neg (by simp), if_pos (by rw [N2.out.2.2.2.1]; omega)]
  have hb2 : openBad d2 1 3 385 = 2 := by unfold openBad; rw [hz, if_neg (by simp), if_neg (by rw [N2.out.2.2.2.1]; omega), if_pos (by omega)]
  have HB1 := Lib.hid hb1; have HB2 := Lib.hid hb2
  clear hz hb1 hb2
  go_wp2_with fail
  obtain ⟨fd, hDd, _⟩ := h8.dv
  refine (open_bad hDd 2 3 0 (by unfold I64; omega) (by unfold I64; omega) (by unfold I64; omega) HB1.out (by decide)).mono ?_
  rintro e w9 ⟨rfl, hk9⟩
  have h9 := h8.next hk9
  clear h8 hDd hk9
  go_wp2_with fail
  obtain ⟨fe, hDe, _⟩ := h9.dv
  refine (open_bad hDe 1 3 385 (by unfold I64; omega) (by unfold I64; omega) (by unfold I64; omega) HB2.out (by decide)).mono ?_
  rintro e wa ⟨rfl, hka⟩
  have ha := h9.next hka
  clear h9 hDe hka
  go_wp2_with fail
  refine ((ha.next (Kept.alloc [] wa (.cells (madeCells #[.int .u8 0] 361) 5))).full _ 361 361 (List.replicate 361 0) (made_sl wa 361 (by unfold maxLen; omega)) (fun e => by cases e) (by rw [List.length_replicate]; omega) (by rw [List.length_replicate, N2.out.2.2.1, N2.out.2.1]; omega) (by have := N2.out.2.2.2.2; omega)).mono ?_
  rintro e wb ⟨rfl, hb⟩
  clear ha
  go_wp2_with fail
  refine ((hb.next (Kept.alloc [] wb (.cells (madeCells #[.int .u8 0] 360) 5))).fits _ 360 360 (List.replicate 360 0) (made_sl wb 360 (by unfold maxLen; omega)) (fun e => by cases e) (by rw [List.length_replicate]; omega) (by rw [List.length_replicate, N2.out.2.2.1, N2.out.2.1]; omega) (by have := N2.out.2.2.2.2; omega)).mono ?_
  rintro e wc ⟨rfl, s3, d3, hc, _⟩
  have hkc := hc.kept
  clear hb hc
  go_wp2_with fail
  go_ret
  exact ⟨rfl, hkc⟩
end Go.Proofs.Ytbnflbkaogpnbaa

/- muslinref12.Size; StripSizes: the walk. -/
namespace Go.Proofs.Ytbnflbkaogpnbaa
open Go.RowKit

set_option maxHeartbeats 400000 in
theorem refSize12_any (n : Int) (w : World) : Calls Try.prog 44 #[.int .i64 n] w fun e w' => e = .returned (.int .i64 (stripSize n)) ∧ w = w' := by
  unfold stripSize
  by_cases h1 : n < 0
  · rw [if_pos (.inl h1)]
    go_enter Try.func44, Try.ntmps44
    go_wp2
    go_ret
    exact ⟨rfl, rfl⟩
  · by_cases h2 : 16384 < n
    · rw [if_pos (.inr h2)]
      go_enter Try.func44, Try.ntmps44
      go_wp2
      go_ret
      exact ⟨rfl, rfl⟩
    · rw [if_neg (by omega)]
      go_enter Try.func44, Try.ntmps44
      go_wp2
      go_ret
      exact ⟨rfl, rfl⟩

set_option maxHeartbeats 400000 in
theorem stripSizes_walk (w : World) (n : Int) : Calls Try.prog 9 #[.int .i64 n] w (TruePost w) := by
  obtain ⟨m, hm⟩ : ∃ m, stripSize n = m := ⟨_, rfl⟩
  have c1 := stripSize_any n
  have c2 := refSize12_any n
  simp only [hm] at c1 c2
  clear hm
  go_enter Try.func9, Try.ntmps9
  go_wp2_with fail
  refine (c1 _).mono ?_
  rintro e w1 ⟨rfl, rfl⟩
  go_wp2_with fail
  refine (c2 _).mono ?_
  rintro e w1 ⟨rfl, rfl⟩
  go_wp2_with fail
  refine (awake12_any _).mono ?_
  rintro e w1 ⟨rfl, hk⟩
  go_wp2_with fail
  go_ret
  exact ⟨rfl, hk⟩
end Go.Proofs.Ytbnflbkaogpnbaa
