/- SpoolKeeps: what its loop keeps; the log opened twice behind a fall. -/
import Derived.Test.YtbnflbkaogpnbaaL2
namespace Go.Proofs.Ytbnflbkaogpnbaa
set_option linter.unusedVariables false
open Go.RowKit

/-- The loop's relation: the log, what is sure, what is in it now. -/
def KqRel (w : World) (a : Nat) (v5 v8 v9 i : Value) (wr : World) : Prop :=
  ∃ (k y : Nat) (F : List Nat) (s : Sp) (d : Dev) (now sure : List (List UInt8)), i = .int .i64 k ∧ k ≤ 30 ∧ v5 = .pointer (some ⟨y, 0, none⟩) ∧ SpF w wr y a F s d ∧ KqSt s d k now sure ∧ d.fail = -1 ∧ LiAt wr F v8 sure ∧ LiAt wr F v9 now

/-- In a round, when the device was told when to fall, or not: the deed lies at DB. -/
def KqArm (w : World) (y a k : Nat) (now sure : List (List UInt8)) (v8 v9 : Value) (DB : Nat) (cs : Array Value) (wr : World) : Prop :=
  ∃ (F : List Nat) (s : Sp) (d : Dev), SpF w wr y a F s d ∧ KqSt s d k now sure ∧ LiAt wr F v8 sure ∧ LiAt wr F v9 now ∧ wr.heap[DB]? = some (.cells cs 101 (0, 0)) ∧ DB ∉ F

/-- In a round, behind the deed. -/
def KqMid (w : World) (y a k : Nat) (now sure : List (List UInt8)) (q : Nat) (v8 v9 v13 v14 : Value) (wr : World) : Prop :=
  ∃ (F : List Nat) (n : Int) (next sure' : List (List UInt8)), v14 = .int .i64 n ∧ KqEnd w wr y a F (k + 1) now sure next sure' (decide (0 < q)) n ∧ LiAt wr F v8 sure ∧ LiAt wr F v9 now ∧ LiAt wr F v13 next ∧ sure' = if q = 0 then sure else next

theorem LiAt.same {w : World} {F G : List Nat} {v u : Value} {l m : List (List UInt8)} (h : LiAt w F v l) (k : LiAt w G u m) : Calls Try.prog 49 #[v, u] w (SamePost w l m) := by
  obtain ⟨A, c, ps, rfl, hB, rfl, _⟩ := h.ex
  obtain ⟨A2, c2, ps2, rfl, hB2, rfl, _⟩ := k.ex
  exact sameLists_any w A A2 _ c _ c2 ps ps2 hB hB2

def FalseKept (w : World) (e : Ending) (w' : World) : Prop := e = .returned (.bool false) ∧ Kept [] w w'
theorem LiAt.sameT {w : World} {F G : List Nat} {v u : Value} {l m : List (List UInt8)} (h : LiAt w F v l) (k : LiAt w G u m) (e : l = m) : Calls Try.prog 49 #[v, u] w (TrueKept w) := by
  refine (h.same k).mono ?_
  rintro _ w' ⟨rfl, q, rfl⟩
  exact ⟨by rw [decide_eq_true e], Kept.drewN [] w q⟩
theorem LiAt.sameF {w : World} {F G : List Nat} {v u : Value} {l m : List (List UInt8)} (h : LiAt w F v l) (k : LiAt w G u m) (e : ¬ l = m) : Calls Try.prog 49 #[v, u] w (FalseKept w) := by
  refine (h.same k).mono ?_
  rintro _ w' ⟨rfl, q, rfl⟩
  exact ⟨by rw [decide_eq_false e], Kept.drewN [] w q⟩

/-- The log of a new device. -/
def KqNew (w0 : World) (a : Nat) (e : Ending) (w' : World) : Prop :=
  ∃ y F A c s d, e = .returned (.tuple #[.pointer (some ⟨y, 0, none⟩), .slice A 0 c, .int .i64 0]) ∧ SpF w0 w' y a F s d ∧ KqSt s d 0 [] [] ∧ d.fail = -1

theorem kq_new {w0 w : World} {a : Nat} {fp : List Nat} (hD : Dv w a fp (Dev.new 100)) (hk : Kept [] w0 w) (hN : ∀ j ∈ fp, w0.heap.size ≤ j) :
    Calls Try.prog 58 #[.pointer (some ⟨a, 0, none⟩), .int .i64 3, .int .i64 90] w (KqNew w0 a) := by
  refine (sp_new (n := 100) (f := 3) (sectors := 90) (each := 44) hD hk hN (by omega) rfl (by omega)).mono ?_
  rintro e w' ⟨y, F, A, c, rfl, h⟩
  have hd : SpDisk 5 44 (Dev.new 100) ⟨3, 0, 0, []⟩ 0 [] := SpDisk.new (n := 100) (f := 3) (each := 44) (by omega) (by omega)
  exact ⟨y, F, A, c, _, _, rfl, h, hd.opened rfl rfl rfl rfl (Nat.le_refl _) (by decide) (by simp), rfl⟩

section
variable {w0 w : World} {y a : Nat} {F : List Nat} {s : Sp} {d : Dev} {k : Nat} {now sure nx : List (List UInt8)} {b : Bool}

theorem SpF.dvY (h : SpF w0 w y a F s d) : ∃ fp, Dv w a fp d ∧ (∀ j ∈ fp, j ∈ F) ∧ (∀ j ∈ fp, w0.heap.size ≤ j) ∧ y ∉ fp ∧ y < w.heap.size ∧ w0.heap.size ≤ y := by
  obtain ⟨zs, zt, fp, slp, stp, hP, h2⟩ := h.at_.parts
  exact ⟨fp, hP.dv, fun j hj => h2 j (.inr (.inl hj)), fun j hj => h.low j (h2 j (.inr (.inl hj))), hP.y1, hP.yl, h.low y (h2 y (.inl rfl))⟩

/-- Opened, behind a fall. -/
def KqOp1 (w0 w : World) (a : Nat) (F : List Nat) (k : Nat) (sure next : List (List UInt8)) (b : Bool) (e : Ending) (w' : World) : Prop :=
  ∃ L y F' sl half d v, e = .returned (.tuple #[.pointer (some ⟨y, 0, none⟩), v, .int .i64 0]) ∧ SpF w0 w' y a F' (Sp.opened 5 44 half sl L) d ∧ KqSt (Sp.opened 5 44 half sl L) d k L L ∧ d.fail = -1 ∧ SpDisk 5 44 d sl half L ∧ LiAt w' F' v L ∧ Step F F' w w' ∧ (L = sure ∨ b = true ∧ L = next)

theorem kq_open1 (h : SpF w0 w y a F s d.boot) (hd : KqDead d k sure nx b) :
    Calls Try.prog 58 #[.pointer (some ⟨a, 0, none⟩), .int .i64 3, .int .i64 90] w (KqOp1 w0 w a F k sure nx b) := by
  obtain ⟨sl, half, L, g1, g2, g3, g4⟩ := hd.there
  obtain ⟨fp, hD, f1, f2, _⟩ := h.dvY
  refine (kq_open hD h.kept f2 rfl g2.boot).mono ?_
  rintro e w' ⟨y', F', v, rfl, k1, k2, k3, k4, k5⟩
  refine ⟨L, y', F', sl, half, _, v, rfl, k1, g2.boot.opened rfl hd.fail hd.till hd.none g1 hd.works g4, hd.fail, g2.boot, k2, ⟨k3.mono (by simp), fun j hj => ?_⟩, g3⟩
  rcases k5 j hj with e | e
  · exact .inl (f1 j e)
  · exact .inr e

/-- The log twice, on one device. -/
structure KqTwo (w0 w : World) (y z a : Nat) (F G : List Nat) (k : Nat) (v : Value) (L : List (List UInt8)) : Prop where
  ex : ∃ s d, SpF w0 w y a F s d ∧ SpF w0 w z a G s d ∧ KqSt s d k L L ∧ d.fail = -1
  li : LiAt w (z :: F) v L
  ny : y ∉ G
  nz : z ∉ F

/-- Opened once more. -/
def KqOp2 (w0 w : World) (y a : Nat) (F : List Nat) (k : Nat) (v : Value) (L : List (List UInt8)) (e : Ending) (w' : World) : Prop :=
  ∃ z G v2, e = .returned (.tuple #[.pointer (some ⟨z, 0, none⟩), v2, .int .i64 0]) ∧ KqTwo w0 w' y z a F G k v L ∧ LiAt w' G v2 L ∧ Kept [] w w'

theorem kq_open2 {sl : Sl} {half : Nat} {L : List (List UInt8)} {v : Value} (h : SpF w0 w y a F (Sp.opened 5 44 half sl L) d) (hs : KqSt (Sp.opened 5 44 half sl L) d k L L) (hf : d.fail = -1) (hk : SpDisk 5 44 d sl half L) (hl : LiAt w F v L) :
    Calls Try.prog 58 #[.pointer (some ⟨a, 0, none⟩), .int .i64 3, .int .i64 90] w (KqOp2 w0 w y a F k v L) := by
  obtain ⟨fp, hD, f1, f2, f3, f4, f5⟩ := h.dvY
  refine (kq_open hD h.kept f2 hs.dead hk).mono ?_
  rintro e w' ⟨z, G, v2, rfl, k1, k2, k3, k4, k5⟩
  refine ⟨z, G, v2, rfl, ⟨⟨_, d, h.next k3, k1, hs, hf⟩, hl.step ⟨k3.mono (by simp), fun j hj => ?_⟩, fun hm => ?_, fun hm => ?_⟩, k2, k3⟩
  · rcases List.mem_cons.mp hj with rfl | hj
    · exact .inr k4
    · exact .inl hj
  · rcases k5 _ hm with e | e
    · exact f3 e
    · omega
  · have := h.at_.lt _ hm
    omega

theorem KqTwo.next {w' : World} {z : Nat} {G : List Nat} {v : Value} {L : List (List UInt8)} (h : KqTwo w0 w y z a F G k v L) (hk : Kept [] w w') : KqTwo w0 w' y z a F G k v L := by
  obtain ⟨s, d, h1, h2, h3⟩ := h.ex
  exact ⟨⟨s, d, h1.next hk, h2.next hk, h3⟩, h.li.next hk, h.ny, h.nz⟩

def KqTwoPost (w0 : World) (y z a : Nat) (F G : List Nat) (k : Nat) (v : Value) (L : List (List UInt8)) (e : Ending) (w' : World) : Prop :=
  e = .returned (.int .i64 L.length) ∧ KqTwo w0 w' y z a F G k v L

theorem KqTwo.lenY {z : Nat} {G : List Nat} {v : Value} {L : List (List UInt8)} (h : KqTwo w0 w y z a F G k v L) : Calls Try.prog 62 #[.pointer (some ⟨y, 0, none⟩)] w (KqTwoPost w0 y z a F G k v L) := by
  obtain ⟨s, d, h1, h2, h3, h4⟩ := h.ex
  refine (kq_len h1 h3).mono ?_
  rintro e w' ⟨rfl, g1, g2, g3⟩
  exact ⟨rfl, ⟨s, d, g1, h2.beside g2 h.ny (h1.low y g3), h3, h4⟩, h.li.step ⟨g2.mono (fun i hi => .inl (by simp at hi; simp [hi, g3])), fun j hj => .inl hj⟩, h.ny, h.nz⟩

theorem KqTwo.lenZ {z : Nat} {G : List Nat} {v : Value} {L : List (List UInt8)} (h : KqTwo w0 w y z a F G k v L) : Calls Try.prog 62 #[.pointer (some ⟨z, 0, none⟩)] w (KqTwoPost w0 y z a F G k v L) := by
  obtain ⟨s, d, h1, h2, h3, h4⟩ := h.ex
  refine (kq_len h2 h3).mono ?_
  rintro e w' ⟨rfl, g1, g2, g3⟩
  exact ⟨rfl, ⟨s, d, h1.beside g2 h.nz (h2.low z g3), g1, h3, h4⟩, h.li.step ⟨g2.mono (fun i hi => .inl (by simp at hi; simp [hi])), fun j hj => .inl hj⟩, h.ny, h.nz⟩
end

/-- A loop that takes the first K bytes of each of the first M of some records. -/
def LnRel (M K : Nat) (w wr0 : World) (F : List Nat) (lp : List Part) (v i : Value) (wx : World) : Prop :=
  ∃ j : Nat, j ≤ M ∧ j ≤ lp.length ∧ i = .int .i64 j ∧ RowIn w.heap.size wx 34 F v j (((lp.take j).map (Part.low K)).map Part.val) ∧ Kept [] wr0 wx ∧ (∀ g, v.ownBlock = some g → wr0.heap.size ≤ g)
end Go.Proofs.Ytbnflbkaogpnbaa
