/- The contracts of a device, its parts out of sight. -/
import Derived.Test.YtbnflbkaogpnbaaE1
namespace Go.Proofs.Ytbnflbkaogpnbaa
open Go.RowKit

/-- A deed that answers an error number, at a device whose blocks are fp. -/
def DvPost (w : World) (a : Nat) (fp : List Nat) (r : Dev × Int) (e : Ending) (w' : World) : Prop :=
  e = .returned (.int .i64 r.2) ∧ ∃ fp', Dv w' a fp' r.1 ∧ Kept fp w w' ∧ ∀ j ∈ fp', j ∈ fp ∨ w.heap.size ≤ j

theorem DvPost.of {w : World} {a S M : Nat} {K : Option Nat} {r : Dev × Int} {e : Ending} {w' : World} (h : DevPost w a S M K r e w') : DvPost w a (a :: S :: M :: K.toList) r e w' := by
  obtain ⟨h1, K', h2, h3, h4⟩ := h
  refine ⟨h1, _, ⟨S, M, K', rfl, h2⟩, h3.mono (fun i hi => .inl (by simp at hi ⊢; rcases hi with rfl | rfl | rfl <;> simp)), fun j hj => ?_⟩
  simp only [List.mem_cons, Option.mem_toList] at hj ⊢
  rcases hj with rfl | rfl | rfl | hj
  · simp
  · simp
  · simp
  · rcases h4 j hj with h5 | h5
    · simp [h5]
    · exact .inr h5

section
variable {w : World} {a : Nat} {fp : List Nat} {d : Dev}
theorem write_dv (hD : Dv w a fp d) (i : Int) (b : Blk) (A : Option Addr) (n c : Nat) (hs : SlAt w A n c (u8vs b)) (hA : ∀ p, A = some p → p.block ∉ fp) (hwk : d.works < 9223372036854775807) :
    Calls Try.prog 24 #[.pointer (some ⟨a, 0, none⟩), .int .i64 i, .slice A n c] w (DvPost w a fp (d.write i b)) := by
  obtain ⟨S, M, K, rfl, h⟩ := hD
  exact (write_any h i b A n c hs (fun p hp hm => hA p hp (by simp at hm ⊢; rcases hm with h | h <;> simp [h])) hwk).mono fun e w' h => .of h
theorem flush_dv (hD : Dv w a fp d) (hwk : d.works < 9223372036854775807) : Calls Try.prog 23 #[.pointer (some ⟨a, 0, none⟩)] w (DvPost w a fp d.flush) := by
  obtain ⟨S, M, K, rfl, h⟩ := hD
  exact (flush_any h hwk).mono fun e w' h => .of h
theorem crash_dv (hD : Dv w a fp d) (A : Option Addr) (n c : Nat) (keep : List Int) (hx : SlAt w A n c (keep.map i64v)) (hA : ∀ p, A = some p → 0 < n → p.block ∉ fp) :
    Calls Try.prog 26 #[.pointer (some ⟨a, 0, none⟩), .slice A n c] w (DvPost w a fp (d.crash keep)) := by
  obtain ⟨S, M, K, rfl, h⟩ := hD
  exact (crash_any h A n c keep hx (fun p hp hn e => hA p hp hn (by simp [e]))).mono fun e w' h => .of h
theorem fail_dv (hD : Dv w a fp d) (n : Int) (h0 : -9223372036854775808 ≤ n) (h1 : n ≤ 9223372036854775807) (A : Option Addr) (m c : Nat) (keep : List Int) (hx : SlAt w A m c (keep.map i64v)) (hn : m * 8 ≤ 140737488355328)
    (hk : ∀ n ∈ keep, -9223372036854775808 ≤ n ∧ n ≤ 9223372036854775807) :
    Calls Try.prog 34 #[.pointer (some ⟨a, 0, none⟩), .int .i64 n, .slice A m c] w (DvPost w a fp (d.failAt n keep)) := by
  obtain ⟨S, M, K, rfl, h⟩ := hD
  exact (fail_any h n h0 h1 A m c keep hx hn hk).mono fun e w' h => .of h
theorem refuse_dv (hD : Dv w a fp d) (n : Int) (h0 : -9223372036854775808 ≤ n) (h1 : n ≤ 9223372036854775807) : Calls Try.prog 32 #[.pointer (some ⟨a, 0, none⟩), .int .i64 n] w (DvPost w a fp (d.refuse n)) := by
  obtain ⟨S, M, K, rfl, h⟩ := hD
  exact (refuse_any h n h0 h1).mono fun e w' h => .of h
theorem boot_dv (hD : Dv w a fp d) : Calls Try.prog 27 #[.pointer (some ⟨a, 0, none⟩)] w (DvPost w a fp (d.boot, 0)) := by
  obtain ⟨S, M, K, rfl, h⟩ := hD
  exact (boot_any h).mono fun e w' h => .of h

/-- What Read does, where there is a sector. -/
def ReadsPost (w : World) (b : Blk) (e : Ending) (w' : World) : Prop :=
  ∃ A c, e = .returned (.tuple #[.slice A 128 c, .int .i64 0]) ∧ w'.ownsRow w.heap.size 5 1 (.slice A 128 c) 128 (u8vs b) ∧ Below w.heap.size w w'
theorem read_dv (hD : Dv w a fp d) (i : Int) {b : Blk} (hz : d.at_ i = 0) (hb : d.secs[i.toNat]? = some b) : Calls Try.prog 30 #[.pointer (some ⟨a, 0, none⟩), .int .i64 i] w (ReadsPost w b) := by
  obtain ⟨S, M, K, rfl, h⟩ := hD
  refine (read_any h i).mono ?_
  rintro e w' (⟨h, _⟩ | ⟨_, v, bb, he, hb', hown, hbel⟩)
  · exact absurd hz h
  · rw [hb] at hb'
    cases hb'
    obtain ⟨A, c, rfl, _⟩ := SlAt.of_own hown
    exact ⟨A, c, he, hown, hbel⟩
theorem read_bad (hD : Dv w a fp d) (i : Int) (hz : d.at_ i ≠ 0) : Calls Try.prog 30 #[.pointer (some ⟨a, 0, none⟩), .int .i64 i] w fun e w' => e = .returned (.tuple #[.slice none 0 0, .int .i64 (d.at_ i)]) ∧ w = w' := by
  obtain ⟨S, M, K, rfl, h⟩ := hD
  refine (read_any h i).mono ?_
  rintro e w' (⟨_, he, rfl⟩ | ⟨h0, _⟩)
  · exact ⟨he, rfl⟩
  · exact absurd h0 hz
theorem has_dv (hD : Dv w a fp d) (i b : Int) : Calls Try.prog 28 #[.pointer (some ⟨a, 0, none⟩), .int .i64 i, .int .i64 b] w (HasPost w (d.hasB i b)) := by
  obtain ⟨S, M, K, rfl, h⟩ := hD
  exact has_any h i b
theorem size_dv (hD : Dv w a fp d) : Calls Try.prog 37 #[.pointer (some ⟨a, 0, none⟩)] w fun e w' => e = .returned (.int .i64 d.secs.length) ∧ w = w' := by
  obtain ⟨S, M, K, rfl, h⟩ := hD
  exact size_any h
theorem works_dv (hD : Dv w a fp d) : Calls Try.prog 33 #[.pointer (some ⟨a, 0, none⟩)] w fun e w' => e = .returned (.int .i64 d.works) ∧ w = w' := by
  obtain ⟨S, M, K, rfl, h⟩ := hD
  exact works_any h
theorem dead_dv (hD : Dv w a fp d) : Calls Try.prog 35 #[.pointer (some ⟨a, 0, none⟩)] w fun e w' => e = .returned (.bool d.dead) ∧ w = w' := by
  obtain ⟨S, M, K, rfl, h⟩ := hD
  exact dead_any h
end

/-- A new row, as an argument. -/
theorem ClonePost.sl {w w' : World} {t : TypeId} {n : Nat} {xs : List Value} {A : Option Addr} {c : Nat} (h : w'.ownsRow w.heap.size t 1 (.slice A n c) n xs) : SlAt w' A n c xs ∧ ∀ p, A = some p → w.heap.size ≤ p.block := by
  obtain ⟨A2, c2, e, h1, h2⟩ := SlAt.of_own h
  cases e
  exact ⟨h1, fun p hp => (h2 p hp).2⟩

/-- A device that is there in w, below its heap's size. -/
theorem Dv.old {w : World} {a : Nat} {fp : List Nat} {d : Dev} (h : Dv w a fp d) {j : Nat} (hj : w.heap.size ≤ j) : j ∉ fp := fun hm => by
  have := h.lt j hm
  omega
theorem Dv.new_kept {w w' : World} {a : Nat} {fp : List Nat} {d : Dev} (h : Dv w a fp d) (hk : Kept [] w w') : Dv w' a fp d := h.kept hk (by simp)
end Go.Proofs.Ytbnflbkaogpnbaa
