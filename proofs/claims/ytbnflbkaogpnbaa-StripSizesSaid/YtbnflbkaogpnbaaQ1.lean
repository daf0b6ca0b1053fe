/- A strip on a device; Open where all is well. -/
import Derived.Test.YtbnflbkaogpnbaaV4
import Derived.Test.YtbnflbkaogpnbaaV7
namespace Go.Proofs.Ytbnflbkaogpnbaa
open Go.RowKit

/-- In w, at block z, the strip s on the device d at a; the blocks of both are among F. -/
structure SdAt (w : World) (z a : Nat) (F : List Nat) (s : St) (d : Dev) : Prop where
  parts : ∃ fp sp, Dv w a fp d ∧ StAt w z a sp s ∧ (∀ j ∈ sp, j ∉ fp) ∧ ∀ j, j ∈ fp ∨ j ∈ sp → j ∈ F
  lt : ∀ j ∈ F, j < w.heap.size

theorem SdAt.kept {w w' : World} {z a : Nat} {F G : List Nat} {s : St} {d : Dev} (h : SdAt w z a F s d) (hk : Kept G w w') (hG : ∀ j ∈ F, j ∉ G) : SdAt w' z a F s d := by
  obtain ⟨fp, sp, h1, h2, h3, h4⟩ := h.parts
  exact ⟨⟨fp, sp, h1.kept hk (fun j hj => hG j (h4 j (.inl hj))), h2.kept hk (fun j hj => hG j (h4 j (.inr hj))), h3, h4⟩, fun j hj => Nat.lt_of_lt_of_le (h.lt j hj) hk.size⟩

theorem SdAt.new {w w' : World} {z a : Nat} {F : List Nat} {s : St} {d : Dev} (h : SdAt w z a F s d) (hk : Kept [] w w') : SdAt w' z a F s d := h.kept hk (by simp)

/-- A deed on it: what it answers, the device and the strip behind it. -/
def SdPost (w : World) (z a : Nat) (F : List Nat) (s : St) (d : Dev) (n : Int) (e : Ending) (w' : World) : Prop :=
  e = .returned (.int .i64 n) ∧ ∃ F', SdAt w' z a F' s d ∧ Kept F w w' ∧ ∀ j ∈ F', j ∈ F ∨ w.heap.size ≤ j

theorem sd_append {w : World} {z a : Nat} {F : List Nat} {s : St} {d : Dev} (h : SdAt w z a F s d) (hw : s.Wf d) (A : Option Addr) (n c : Nat) (b : List UInt8) (hb : SlAt w A n c (u8vs b)) (hA : A = none → c = 0)
    (hwk : d.works < 9223372036854000000) : Calls Try.prog 47 #[.pointer (some ⟨z, 0, none⟩), .slice A n c] w (SdPost w z a F (s.append d b).1 (s.append d b).2.1 (s.append d b).2.2) := by
  obtain ⟨fp, sp, h1, h2, h3, h4⟩ := h.parts
  refine (append_any h1 h2 h3 hw A n c b hb hA hwk).mono ?_
  rintro e w' ⟨rfl, fp', sp', g1, g2, g3, g4, g5, g6⟩
  refine ⟨rfl, fp' ++ sp', ⟨⟨fp', sp', g1, g2, g6, fun j hj => by simpa using hj⟩, fun j hj => ?_⟩, g3.mono (fun i hi => .inl (h4 i (by simpa using hi))), fun j hj => ?_⟩
  · simp only [List.mem_append] at hj
    rcases hj with hj | hj
    · exact g1.lt j hj
    · exact g2.lt j hj
  · simp only [List.mem_append] at hj
    rcases hj with hj | hj
    · rcases g4 j hj with e | e
      · exact .inl (h4 j (.inl e))
      · exact .inr e
    · rcases g5 j hj with e | e
      · exact .inl (h4 j (.inr e))
      · exact .inr e

/-- A deed of the device. -/
theorem sd_dv {w : World} {z a : Nat} {F : List Nat} {s : St} {d : Dev} (h : SdAt w z a F s d) {f : FuncId} {args : Array Value} {r : Dev × Int} (hc : ∀ fp, Dv w a fp d → (∀ j ∈ fp, j ∈ F) → Calls Try.prog f args w (DvPost w a fp r)) : Calls Try.prog f args w (SdPost w z a F s r.1 r.2) := by
  obtain ⟨fp, sp, h1, h2, h3, h4⟩ := h.parts
  refine (hc fp h1 (fun j hj => h4 j (.inl hj))).mono ?_
  rintro e w' ⟨rfl, fp', g1, g2, g3⟩
  have g4 : ∀ j ∈ sp, j ∉ fp' := fun j hj hm => by
    rcases g3 j hm with e | e
    · exact h3 j hj e
    · have := h2.lt j hj; omega
  refine ⟨rfl, fp' ++ sp, ⟨⟨fp', sp, g1, h2.kept g2 h3, g4, fun j hj => by simpa using hj⟩, fun j hj => ?_⟩, g2.mono (fun i hi => .inl (h4 i (.inl hi))), fun j hj => ?_⟩
  · simp only [List.mem_append] at hj
    rcases hj with hj | hj
    · exact g1.lt j hj
    · exact Nat.lt_of_lt_of_le (h2.lt j hj) g2.size
  · simp only [List.mem_append] at hj
    rcases hj with hj | hj
    · rcases g3 j hj with e | e
      · exact .inl (h4 j (.inl e))
      · exact .inr e
    · exact .inl (h4 j (.inr hj))

theorem sd_end {w : World} {z a : Nat} {F : List Nat} {s : St} {d : Dev} (h : SdAt w z a F s d) : Calls Try.prog 48 #[.pointer (some ⟨z, 0, none⟩)] w fun e w' => e = .returned (.int .i64 s.fin) ∧ w = w' := by
  obtain ⟨fp, sp, h1, h2, h3, h4⟩ := h.parts
  exact stripEnd_any h2

theorem sd_left {w : World} {z a : Nat} {F : List Nat} {s : St} {d : Dev} (h : SdAt w z a F s d) (hw : s.Wf d) : Calls Try.prog 50 #[.pointer (some ⟨z, 0, none⟩)] w (LeftPost w (128 * s.many - s.fin)) := by
  obtain ⟨fp, sp, h1, h2, h3, h4⟩ := h.parts
  exact stripLeft_any h2 (by have h5 := hw.there; have h6 := h1.wf.many; omega) hw.fin

theorem Dev.Calm.at0 {d : Dev} (h : d.Calm) {i : Int} (h0 : 0 ≤ i) (h1 : i < d.secs.length) : d.at_ i = 0 := by
  unfold Dev.at_
  rw [h.dead, if_neg (by simp), if_neg (by omega)]

/-- Open, where there are records. -/
def OpenOk (w : World) (a : Nat) (fp : List Nat) (d : Dev) (first many fin : Nat) (l : List (List UInt8)) (e : Ending) (w' : World) : Prop :=
  Kept [] w w' ∧ ∃ (z : Nat) (F : List Nat) (A : Option Addr) (n c : Nat) (ps : List Part) (s : St), e = .returned (.tuple #[.pointer (some ⟨z, 0, none⟩), .slice A n c, .int .i64 0]) ∧ BytessAt w' A n c ps ∧ texts ps = l ∧ SdAt w' z a F s d ∧ SInv s d l ∧
    s.first = first ∧ s.many = many ∧ s.fin = fin ∧ (∀ j ∈ F, j ∈ fp ∨ w.heap.size ≤ j) ∧ (∀ j ∈ fp, j ∈ F) ∧ (∀ p, A = some p → w.heap.size ≤ p.block ∧ p.block ∉ F) ∧ ∀ q ∈ ps, ∀ p, q.A = some p → w.heap.size ≤ p.block ∧ p.block ∉ F

theorem openBad_zero {d : Dev} (hd : d.Calm) {first many fin : Nat} (hm : 1 ≤ many) (hf : first + many ≤ d.secs.length) (he : fin ≤ 128 * many) : openBad d first many fin = 0 := by
  unfold openBad
  rw [hd.at0 (Int.le_refl 0) (by omega), if_neg (by simp), if_neg (by omega), if_neg (by omega)]

theorem bytesAt_len {d : Dev} (hd : d.Calm) (first : Nat) : (d.bytesAt first).length = 128 * (d.secs.length - first) := by
  unfold Dev.bytesAt
  rw [flatten_len _ (fun b hb => hd.size b (List.mem_of_mem_drop hb)), List.length_drop]

theorem open_ok {w : World} {a : Nat} {fp : List Nat} {d : Dev} (hD : Dv w a fp d) (hd : d.Calm) {first many fin : Nat} (hm : 1 ≤ many) (hf : first + many ≤ d.secs.length) (he : fin ≤ 128 * many) {l : List (List UInt8)} (hl : Small l) (hr : (d.bytesAt first).take fin = recs l) :
    Calls Try.prog 46 #[.pointer (some ⟨a, 0, none⟩), .int .i64 first, .int .i64 many, .int .i64 fin] w (OpenOk w a fp d first many fin l) := by
  have hb := openBad_zero hd hm hf he
  have hmx := hD.wf.many
  refine (open_any hD first many fin (by unfold I64; omega) (by unfold I64; omega) (by unfold I64; omega)).mono ?_
  simp only [OpenPost, Int.toNat_natCast, hb]
  rintro e w' ⟨hk, ⟨h, _⟩ | ⟨_, h, _⟩ | ⟨_, z, sp, A, n, c, ps, rfl, h1, h2, h3, h4, h5, h6, h7⟩⟩
  · exact absurd rfl h
  · exact absurd hr (h l hl)
  · have e1 : texts ps = l := recs_inj h2 hl (by rw [← h3, hr])
    have hne : ∀ j ∈ sp, j ∉ fp := fun j hj hm => by have := h5 j hj; have := hD.lt j hm; omega
    refine ⟨hk, z, fp ++ sp, A, n, c, ps, _, rfl, h1, e1, ⟨⟨fp, sp, hD.new_kept hk, h4, hne, fun j hj => by simpa using hj⟩, fun j hj => ?_⟩, ⟨⟨hm, hf, he, ?_⟩, rfl, hl, hr⟩, rfl, rfl, rfl, fun j hj => ?_, fun j hj => by simp [hj], fun p e => ⟨(h6 p e).1, fun hm => ?_⟩, fun q hq p e => ⟨(h7 q hq p e).1, fun hm => ?_⟩⟩
    · simp only [List.mem_append] at hj
      rcases hj with hj | hj
      · exact Nat.lt_of_lt_of_le (hD.lt j hj) hk.size
      · exact h4.lt j hj
    · show (((d.bytesAt first).take fin).drop (fin - fin % 128)).length = fin % 128
      rw [List.length_drop, List.length_take, bytesAt_len hd]
      omega
    · simp only [List.mem_append] at hj
      rcases hj with hj | hj
      · exact .inl hj
      · exact .inr (h5 j hj)
    · simp only [List.mem_append] at hm
      rcases hm with hm | hm
      · have := hD.lt _ hm; have := (h6 p e).1; omega
      · exact (h6 p e).2 hm
    · simp only [List.mem_append] at hm
      rcases hm with hm | hm
      · have := hD.lt _ hm; have := (h7 q hq p e).1; omega
      · exact (h7 q hq p e).2 hm

/-- Open that answers an error. -/
def OpenErr (w : World) (n : Int) (e : Ending) (w' : World) : Prop := e = .returned (.tuple #[.pointer none, .slice none 0 0, .int .i64 n]) ∧ Kept [] w w'

theorem open_no {w : World} {a : Nat} {fp : List Nat} {d : Dev} (hD : Dv w a fp d) (hd : d.Calm) {first many fin : Nat} (hm : 1 ≤ many) (hf : first + many ≤ d.secs.length) (he : fin ≤ 128 * many) (hr : NoRecs ((d.bytesAt first).take fin)) :
    Calls Try.prog 46 #[.pointer (some ⟨a, 0, none⟩), .int .i64 first, .int .i64 many, .int .i64 fin] w (OpenErr w 110) := by
  have hb := openBad_zero hd hm hf he
  have hmx := hD.wf.many
  refine (open_any hD first many fin (by unfold I64; omega) (by unfold I64; omega) (by unfold I64; omega)).mono ?_
  simp only [OpenPost, Int.toNat_natCast, hb]
  rintro e w' ⟨hk, ⟨h, _⟩ | ⟨_, _, rfl⟩ | ⟨_, z, sp, A, n, c, ps, rfl, h1, h2, h3, _⟩⟩
  · exact absurd rfl h
  · exact ⟨rfl, hk⟩
  · exact absurd h3 (hr _ h2)

theorem open_bad {w : World} {a : Nat} {fp : List Nat} {d : Dev} (hD : Dv w a fp d) (first many fin : Int) (h1 : I64 first) (h2 : I64 many) (h3 : I64 fin) {n : Int} (hb : openBad d first many fin = n) (h0 : n ≠ 0) :
    Calls Try.prog 46 #[.pointer (some ⟨a, 0, none⟩), .int .i64 first, .int .i64 many, .int .i64 fin] w (OpenErr w n) := by
  refine (open_any hD first many fin h1 h2 h3).mono ?_
  simp only [OpenPost, hb]
  rintro e w' ⟨hk, ⟨_, rfl⟩ | ⟨h, _⟩ | ⟨h, _⟩⟩
  · exact ⟨rfl, hk⟩
  · exact absurd h h0
  · exact absurd h h0
end Go.Proofs.Ytbnflbkaogpnbaa
