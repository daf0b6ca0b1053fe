/- Slots on a device; muslinlaw11.opens. -/
import Derived.Test.YtbnflbkaogpnbaaO5
import Derived.Test.YtbnflbkaogpnbaaO1
import Derived.Test.YtbnflbkaogpnbaaQB
namespace Go.Proofs.Ytbnflbkaogpnbaa
set_option linter.unusedVariables false
open Go.RowKit

/-- In w, at block z, the slots s on the device d at a; the blocks of both are among F. -/
structure TdAt (w : World) (z a : Nat) (F : List Nat) (s : Sl) (d : Dev) : Prop where
  parts : ∃ fp sp, Dv w a fp d ∧ TwAt w z a sp s ∧ (∀ j ∈ sp, j ∉ fp) ∧ ∀ j, j ∈ fp ∨ j ∈ sp → j ∈ F
  lt : ∀ j ∈ F, j < w.heap.size

theorem TdAt.kept {w w' : World} {z a : Nat} {F G : List Nat} {s : Sl} {d : Dev} (h : TdAt w z a F s d) (hk : Kept G w w') (hG : ∀ j ∈ F, j ∉ G) : TdAt w' z a F s d := by
  obtain ⟨fp, sp, h1, h2, h3, h4⟩ := h.parts
  exact ⟨⟨fp, sp, h1.kept hk (fun j hj => hG j (h4 j (.inl hj))), h2.kept hk (fun j hj => hG j (h4 j (.inr hj))), h3, h4⟩, fun j hj => Nat.lt_of_lt_of_le (h.lt j hj) hk.size⟩

theorem TdAt.new {w w' : World} {z a : Nat} {F : List Nat} {s : Sl} {d : Dev} (h : TdAt w z a F s d) (hk : Kept [] w w') : TdAt w' z a F s d := h.kept hk (by simp)

theorem TdAt.dv {w : World} {z a : Nat} {F : List Nat} {s : Sl} {d : Dev} (h : TdAt w z a F s d) : ∃ fp, Dv w a fp d ∧ ∀ j ∈ fp, j ∈ F := by
  obtain ⟨fp, sp, h1, h2, h3, h4⟩ := h.parts
  exact ⟨fp, h1, fun j hj => h4 j (.inl hj)⟩

/-- A deed: what it answers, the device and the slots behind it. -/
def TdPost (w : World) (z a : Nat) (F : List Nat) (s : Sl) (d : Dev) (n : Int) (e : Ending) (w' : World) : Prop :=
  e = .returned (.int .i64 n) ∧ ∃ F', TdAt w' z a F' s d ∧ Step F F' w w'

theorem td_save {w : World} {z a : Nat} {F : List Nat} {s : Sl} {d : Dev} (h : TdAt w z a F s d) (hnw : s.newer ≤ 1) (htn : s.turn < 9223372036854775000) (hfi : s.first < 9223372036854775000) (A : Option Addr) (n c : Nat) (b : List UInt8) (hb : SlAt w A n c (u8vs b))
    (hwk : d.works < 9223372036854000000) : Calls Try.prog 53 #[.pointer (some ⟨z, 0, none⟩), .slice A n c] w (TdPost w z a F (s.save d b).1 (s.save d b).2.1 (s.save d b).2.2) := by
  obtain ⟨fp, sp, h1, h2, h3, h4⟩ := h.parts
  refine (slotsSave_any h1 h2 h3 hnw htn hfi A n c b hb hwk).mono ?_
  rintro e w' ⟨rfl, fp', sp', g1, g2, g3, g4, g5, g6⟩
  refine ⟨rfl, fp' ++ sp', ⟨⟨fp', sp', g1, g2, g6, fun j hj => by simpa using hj⟩, fun j hj => ?_⟩, g3.mono (fun i hi => .inl (h4 i (by simpa using hi))), fun j hj => ?_⟩
  · simp only [List.mem_append] at hj
    rcases hj with hj | hj
    · exact g1.lt j hj
    · exact g2.lt j hj
  · simp only [List.mem_append] at hj
    rcases hj with hj | hj
    · rcases g4 j hj with e | e
      · exact .inl (h4 j (.inl e))
      · exact .inr e
    · rcases g5 j hj with e | e
      · exact .inl (h4 j (.inr e))
      · exact .inr e

theorem td_dv {w : World} {z a : Nat} {F : List Nat} {s : Sl} {d : Dev} (h : TdAt w z a F s d) {f : FuncId} {args : Array Value} {r : Dev × Int} (hc : ∀ fp, Dv w a fp d → (∀ j ∈ fp, j ∈ F) → Calls Try.prog f args w (DvPost w a fp r)) : Calls Try.prog f args w (TdPost w z a F s r.1 r.2) := by
  obtain ⟨fp, sp, h1, h2, h3, h4⟩ := h.parts
  refine (hc fp h1 (fun j hj => h4 j (.inl hj))).mono ?_
  rintro e w' ⟨rfl, fp', g1, g2, g3⟩
  have g4 : ∀ j ∈ sp, j ∉ fp' := fun j hj hm => by
    rcases g3 j hm with e | e
    · exact h3 j hj e
    · have := h2.lt j hj; omega
  refine ⟨rfl, fp' ++ sp, ⟨⟨fp', sp, g1, h2.kept g2 h3, g4, fun j hj => by simpa using hj⟩, fun j hj => ?_⟩, g2.mono (fun i hi => .inl (h4 i (.inl hi))), fun j hj => ?_⟩
  · simp only [List.mem_append] at hj
    rcases hj with hj | hj
    · exact g1.lt j hj
    · exact Nat.lt_of_lt_of_le (h2.lt j hj) g2.size
  · simp only [List.mem_append] at hj
    rcases hj with hj | hj
    · rcases g3 j hj with e | e
      · exact .inl (h4 j (.inl e))
      · exact .inr e
    · exact .inl (h4 j (.inr hj))

theorem td_turn {w : World} {z a : Nat} {F : List Nat} {s : Sl} {d : Dev} (h : TdAt w z a F s d) : Calls Try.prog 54 #[.pointer (some ⟨z, 0, none⟩)] w fun e w' => e = .returned (.int .i64 s.turn) ∧ w = w' := by
  obtain ⟨fp, sp, h1, h2, h3, h4⟩ := h.parts
  exact slotsTurn_any h2

/-- Open, where the slots are. -/
def OpOk11 (w : World) (a : Nat) (fp : List Nat) (d : Dev) (s : Sl) (e : Ending) (w' : World) : Prop :=
  Kept [] w w' ∧ ∃ z F A c, e = .returned (.tuple #[.pointer (some ⟨z, 0, none⟩), .slice A s.text.length c, .int .i64 0]) ∧ TdAt w' z a F s d ∧ (∀ j ∈ F, j ∈ fp ∨ w.heap.size ≤ j) ∧ SlAt w' A s.text.length c (u8vs s.text) ∧ (A = none → c = 0) ∧ ∀ p, A = some p → w.heap.size ≤ p.block ∧ p.block ∉ F

theorem at_live {d : Dev} (h : d.dead = false) {i : Nat} (hi : i < d.secs.length) : d.at_ (i : Int) = 0 := by simp [Dev.at_, h]; omega

theorem slots_ok {w : World} {a : Nat} {fp : List Nat} {d : Dev} (hD : Dv w a fp d) (hd : d.dead = false) {s : Sl} (hs : SlOn s d) : Calls Try.prog 52 #[.pointer (some ⟨a, 0, none⟩), .int .i64 s.first] w (OpOk11 w a fp d s) := by
  obtain ⟨x, y, h1, h2, h3⟩ := hs.pair
  have hth := hs.there
  have hmany := hD.wf.many
  have z0 := at_live hd (i := s.first) (by omega)
  have z1 := at_live hd (i := s.first + 1) hth
  rw [show ((s.first + 1 : Nat) : Int) = (s.first : Int) + 1 by push_cast; rfl] at z1
  refine (slotsOpen_any hD (s.first : Int) (by unfold I64; omega)).mono ?_
  rintro e w' ⟨hk, ⟨h, _⟩ | ⟨_, h, _⟩ | ⟨_, _, x', y', e1, e2, h4⟩⟩
  · exact absurd z0 h
  · exact absurd z1 h
  · rw [Int.toNat_natCast] at e1 e2 h4
    rw [h1] at e1
    rw [h2] at e2
    cases e1
    cases e2
    rw [h3.of] at h4
    rcases h4 with ⟨h4, _⟩ | ⟨s', h4, z, sp, A, c, rfl, g1, g2, g3, g4, g5⟩
    · cases h4
    · cases h4
      refine ⟨hk, z, fp ++ sp, A, c, rfl, ⟨⟨fp, sp, hD.new_kept hk, g1, fun j hj => hD.old (g4 j hj), fun j hj => by simpa using hj⟩, fun j hj => ?_⟩, fun j hj => ?_, g2, g3, fun p e => ⟨(g5 p e).1, fun hm => ?_⟩⟩
      · simp only [List.mem_append] at hj
        rcases hj with hj | hj
        · exact Nat.lt_of_lt_of_le (hD.lt j hj) hk.size
        · exact g1.lt j hj
      · simp only [List.mem_append] at hj
        rcases hj with hj | hj
        · exact .inl hj
        · exact .inr (g4 j hj)
      · simp only [List.mem_append] at hm
        rcases hm with hm | hm
        · exact hD.old (g5 p e).1 hm
        · exact (g5 p e).2 hm

/-- Open, where there is something else. -/
def OpNo11 (w : World) (n : Int) (e : Ending) (w' : World) : Prop := e = .returned (.tuple #[.pointer none, .slice none 0 0, .int .i64 n]) ∧ Kept [] w w'

theorem slots_no {w : World} {a : Nat} {fp : List Nat} {d : Dev} (hD : Dv w a fp d) (hd : d.dead = false) {f : Nat} (hf : f + 1 < d.secs.length) {x y : Blk} (hx : d.secs[f]? = some x) (hy : d.secs[f + 1]? = some y) (hno : Sl.of f x y = none) :
    Calls Try.prog 52 #[.pointer (some ⟨a, 0, none⟩), .int .i64 f] w (OpNo11 w 110) := by
  have hmany := hD.wf.many
  have z0 := at_live hd (i := f) (by omega)
  have z1 := at_live hd (i := f + 1) hf
  rw [show ((f + 1 : Nat) : Int) = (f : Int) + 1 by push_cast; rfl] at z1
  refine (slotsOpen_any hD (f : Int) (by unfold I64; omega)).mono ?_
  rintro e w' ⟨hk, ⟨h, _⟩ | ⟨_, h, _⟩ | ⟨_, _, x', y', e1, e2, h4⟩⟩
  · exact absurd z0 h
  · exact absurd z1 h
  · rw [Int.toNat_natCast] at e1 e2 h4
    rw [hx] at e1
    rw [hy] at e2
    cases e1
    cases e2
    rw [hno] at h4
    rcases h4 with ⟨_, h4⟩ | ⟨s', h4, _⟩
    · exact ⟨h4, hk⟩
    · cases h4

theorem slots_range {w : World} {a : Nat} {fp : List Nat} {d : Dev} (hD : Dv w a fp d) (f : Int) (hI : I64 f) (h0 : d.at_ f = 0) (h1 : d.at_ (f + 1) ≠ 0) :
    Calls Try.prog 52 #[.pointer (some ⟨a, 0, none⟩), .int .i64 f] w (OpNo11 w (d.at_ (f + 1))) := by
  refine (slotsOpen_any hD f hI).mono ?_
  rintro e w' ⟨hk, ⟨h, _⟩ | ⟨_, _, h⟩ | ⟨_, h, _⟩⟩
  · exact absurd h0 h
  · exact ⟨h, hk⟩
  · exact absurd h h1

set_option maxHeartbeats 1000000 in
theorem opens11_true {w : World} {a : Nat} {fp : List Nat} {d : Dev} (hD : Dv w a fp d) (hd : d.dead = false) {s : Sl} (hs : SlOn s d) (t : List UInt8) (n : Int) (ht : s.text = t) (hn : (s.turn : Int) = n) :
    Calls Try.prog 56 #[.pointer (some ⟨a, 0, none⟩), .int .i64 s.first, .string ⟨t.toArray⟩, .int .i64 n] w (TrueKept w) := by
  have co := slots_ok hD hd hs
  subst ht hn
  go_enter Try.func56, Try.ntmps56
  go_wp2_with fail
  refine co.mono ?_
  rintro e w1 ⟨hk1, z, F, A, c, rfl, hT, hF, hsl, hn, hA⟩
  have hcv := run_str hsl
  unfold strV at hcv
  clear co
  go_wp2_with fail
  refine (td_turn hT).mono ?_
  rintro e w2 ⟨rfl, rfl⟩
  go_wp2_with fail
  go_ret
  exact ⟨rfl, hk1⟩
end Go.Proofs.Ytbnflbkaogpnbaa
