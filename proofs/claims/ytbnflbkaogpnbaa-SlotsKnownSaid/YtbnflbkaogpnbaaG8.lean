/- The pair of chapter 11: opens. -/
import Derived.Test.YtbnflbkaogpnbaaG7
import Derived.Test.YtbnflbkaogpnbaaGH
namespace Go.Proofs.Ytbnflbkaogpnbaa
set_option linter.unusedVariables false
open Go.RowKit

theorem Op11.tup {w w' : World} {a : Nat} {d : Dev} {first : Int} {e : Ending} (h : Op11 w a d first e w') : ∃ v1 v2 v3, e = .returned (.tuple #[v1, v2, v3]) := by
  rcases h.2 with ⟨_, rfl⟩ | ⟨_, _, rfl⟩ | ⟨_, _, _, _, _, _, ⟨_, rfl⟩ | ⟨_, _, _, _, _, _, rfl, _⟩⟩ <;> exact ⟨_, _, _, rfl⟩
theorem Op11R.tup {w w' : World} {r : Nat} {d : Dev} {first : Int} {e : Ending} (h : Op11R w r d first e w') : ∃ v1 v2 v3, e = .returned (.tuple #[v1, v2, v3]) := by
  rcases h.2 with ⟨_, rfl⟩ | ⟨_, _, rfl⟩ | ⟨_, _, _, _, _, _, ⟨_, rfl⟩ | ⟨_, _, _, _, _, rfl, _⟩⟩ <;> exact ⟨_, _, _, rfl⟩

theorem eqBytes_same (w : World) (A B : Option Addr) (n c d : Nat) (xs : List UInt8) (hx : SlAt w A n c (u8vs xs)) (hy : SlAt w B n d (u8vs xs)) :
    Calls Try.prog 31 #[.slice A n c, .slice B n d] w fun e w' => e = .returned (.bool true) ∧ ∃ q, w' = w.drewN q :=
  (eqBytes_any w A B n c n d xs xs hx hy).mono (by rintro e w' ⟨rfl, h⟩; exact ⟨by simp, h⟩)

/-- The pair, the same on both sides. -/
structure PrY (w0 w : World) (p a r : Nat) (first : Int) (d : Dev) (os : Option Sl) (k : Nat) : Prop where
  ex : ∃ vs vm fp gp S G t, Pr11 w0 w p a r d d os os vs vm fp gp S G t
  wf : ∀ s, os = some s → s.newer ≤ 1 ∧ s.turn ≤ 9007199254740991 + k ∧ s.first < 9223372036854775000
  works : d.works ≤ 1000 * k
  len : d.secs.length ≤ 900
  fI : I64 first

def PyPost (w0 : World) (p a r : Nat) (first : Int) (d : Dev) (k : Nat) (e : Ending) (w' : World) : Prop :=
  e = .returned (.tuple #[]) ∧ ∃ os, PrY w0 w' p a r first d os k

theorem pr11_cells {w : World} {p a r : Nat} {vs vm : Value} {b : Bool} (h : w.heap[p]? = some (.cells (prCells11 a r vs vm b) 133 (0, 0))) :
    w.cell? ⟨p, 0, none⟩ = some (.pointer (some ⟨a, 0, none⟩)) ∧ w.cell? ⟨p, 1, none⟩ = some vs ∧ w.cell? ⟨p, 2, none⟩ = some (.pointer (some ⟨r, 0, none⟩)) ∧ w.cell? ⟨p, 3, none⟩ = some vm ∧ w.cell? ⟨p, 4, none⟩ = some (.bool b) ∧ ∀ i, w.frozen? ⟨p, i, none⟩ = false := by
  refine ⟨?_, ?_, ?_, ?_, ?_, fun i => blk_frozen h i⟩ <;> (rw [blk_cell h]; rfl)

theorem readSlot_turn {x : Blk} {t : Nat} {b : List UInt8} (h : readSlot x = some (t, b)) : t ≤ 9007199254740991 := by
  unfold readSlot at h
  split at h
  · simp at h; omega
  · split at h
    · cases h
    · split at h
      · simp only [Option.some.injEq, Prod.mk.injEq] at h
        omega
      · cases h

theorem Sl.of_wf {f : Nat} {x y : Blk} {s : Sl} (h : Sl.of f x y = some s) : s.newer ≤ 1 ∧ s.turn ≤ 9007199254740991 ∧ s.first = f := by
  unfold Sl.of at h
  cases hx : readSlot x with
  | none => rw [hx] at h; cases h
  | some a =>
    cases hy : readSlot y with
    | none => rw [hx, hy] at h; cases h
    | some b =>
      obtain ⟨m, u⟩ := a
      obtain ⟨n, v⟩ := b
      rw [hx, hy] at h
      have h1 := readSlot_turn hx; have h2 := readSlot_turn hy
      simp only at h
      split at h
      · cases h
      · split at h <;> (cases h; exact ⟨by simp, by assumption, rfl⟩)

set_option maxHeartbeats 4000000 in
set_option maxRecDepth 100000 in
theorem pairOpens11_any {w0 w : World} {p a r : Nat} {first : Int} {d : Dev} {os : Option Sl} {k : Nat} (h : PrY w0 w p a r first d os k) :
    Calls Try.prog 93 #[.pointer (some ⟨p, 0, none⟩), .int .i64 first] w (PyPost w0 p a r first d k) := by
  obtain ⟨vs, vm, fp, gp, S, G, t, hP⟩ := h.ex
  obtain ⟨c0, c1, c2, c3, c4, cf⟩ := pr11_cells hP.head
  have hpl := hP.pl
  have hdw := hP.dv.wf
  have cO := fun W (hk : Kept [] w W) => slotsOpen_any (hP.dv.new_kept hk) first h.fI
  have cR := fun W (hk : Kept [] w W) => ref11Open_any (hP.rv.new_kept hk) hdw first h.fI
  go_enter Try.func93, Try.ntmps93
  go_wp2_with fail
  refine (cO w (Kept.refl _ _)).mono ?_
  rintro e w1 hO
  obtain ⟨v1, v2, v3, rfl⟩ := hO.tup
  have k1 := hO.1
  have d0 := (k1.cell (p := ⟨p, 0, none⟩) hpl (by simp)).trans c0
  have d2 := (k1.cell (p := ⟨p, 2, none⟩) hpl (by simp)).trans c2
  have hpl1 := Nat.lt_of_lt_of_le hpl k1.size
  have cR1 := cR w1 k1
  clear cO cR c0 c1 c2 c3 c4 cf
  go_wp2_with fail
  refine cR1.mono ?_
  rintro e w2 hR
  obtain ⟨u1, u2, u3, rfl⟩ := hR.tup
  have k2 := hR.1
  have k12 := k1.trans k2
  have hh2 := (k12.block p hpl (by simp)).trans hP.head
  obtain ⟨x0, x1, x2, x3, x4, xf⟩ := pr11_cells hh2
  clear cR1 d0 d2
  have fin : ∀ (os' : Option Sl) (S' G' : List Nat), TwOpt w2 a v1 S' os' → RsOpt w2 r u1 G' os' → (∀ j ∈ S', w.heap.size ≤ j ∧ j < w1.heap.size) → (∀ j ∈ G', w1.heap.size ≤ j ∧ j < w2.heap.size) → (∀ s, os' = some s → s.newer ≤ 1 ∧ s.turn ≤ 9007199254740991 + k ∧ s.first < 9223372036854775000) →
      ∀ W, Kept [] w2 W → (∃ os, PrY w0 (((W.setCell ⟨p, 4, none⟩ (.bool true)).setCell ⟨p, 1, none⟩ v1).setCell ⟨p, 3, none⟩ u1) p a r first d os k) := fun os' S' G' h1 h2 h3 h4 h5 W hW => by
    have hhW := (hW.block p (Nat.lt_of_lt_of_le hpl k12.size) (by simp)).trans hh2
    have e1 := heap_set hhW 4 (.bool true)
    have e2 := heap_set e1 1 v1
    have e3 := heap_set e2 3 u1
    have hk : Kept [p] W (((W.setCell ⟨p, 4, none⟩ (.bool true)).setCell ⟨p, 1, none⟩ v1).setCell ⟨p, 3, none⟩ u1) := ((Kept.setCell (by simp) _).trans (Kept.setCell (by simp) _)).trans (Kept.setCell (by simp) _)
    have hz1 := k1.size; have hz2 := k2.size; have hzW := hW.size
    obtain ⟨t', hT⟩ := hP.put (vs' := v1) (vm' := u1) (S' := S') (G' := G') (os' := os') (om' := os') (k12.trans hW) hk e3 (h1.kept hW (by simp)) (h2.kept hW (by simp)) (fun j hj => .inr (h3 j hj).1) (fun j hj => .inr (by have := (h4 j hj).1; omega)) (fun j hj hm => by have := (h3 j hj).2; have := (h4 j hm).1; omega) (fun j hj => by have := (h3 j hj).2; omega) (fun j hj => by have := (h4 j hj).2; omega)
    exact ⟨os', ⟨v1, u1, fp, gp, S', G', t', hT⟩, h5, h.works, h.len, h.fI⟩
  rcases hO.2 with ⟨b1, o1⟩ | ⟨b1, b1', o1⟩ | ⟨b1, b1', x, y, hx, hy, o1⟩
  · rcases hR.2 with ⟨b2, o2⟩ | ⟨b2, _, o2⟩ | ⟨b2, _⟩
    · cases o1
      cases o2
      have hf := fin none [] [] rfl rfl (by simp) (by simp) (by simp)
      have cs := fun W => eqBytes_same W none none 0 0 0 [] (SlAt.nil W) (SlAt.nil W)
      generalize d.at_ first = bad at *
      clear b2 b1 hO hR fin
      go_wp2_with fail
      refine (cs _).mono ?_
      rintro e w3 ⟨rfl, q3, rfl⟩
      clear cs
      go_wp2_with fail
      go_end0
      exact ⟨rfl, hf _ (Kept.drewN [] w2 q3)⟩
    · exact absurd b2 b1
    · exact absurd b2 b1
  · rcases hR.2 with ⟨b2, o2⟩ | ⟨b2, _, o2⟩ | ⟨b2, b2', _⟩
    · exact absurd b1 b2
    · cases o1
      cases o2
      have hf := fin none [] [] rfl rfl (by simp) (by simp) (by simp)
      have cs := fun W => eqBytes_same W none none 0 0 0 [] (SlAt.nil W) (SlAt.nil W)
      generalize d.at_ (first + 1) = bad at *
      clear b2 b1 b1' hO hR fin
      go_wp2_with fail
      refine (cs _).mono ?_
      rintro e w3 ⟨rfl, q3, rfl⟩
      clear cs
      go_wp2_with fail
      go_end0
      exact ⟨rfl, hf _ (Kept.drewN [] w2 q3)⟩
    · exact absurd b2' b1'
  · rcases hR.2 with ⟨b2, _⟩ | ⟨b2, b2', _⟩ | ⟨b2, b2', x', y', hx', hy', o2⟩
    · exact absurd b1 b2
    · exact absurd b1' b2'
    · rw [hx] at hx'
      rw [hy] at hy'
      cases hx'
      cases hy'
      rcases o1 with ⟨n1, o1⟩ | ⟨s, n1, z, sp, A, c, o1, hT, hsA, hA, hlow, hAl⟩
      · rcases o2 with ⟨n2, o2⟩ | ⟨s, n2, _⟩
        · cases o1
          cases o2
          have hf := fin none [] [] rfl rfl (by simp) (by simp) (by simp)
          have cs := fun W => eqBytes_same W none none 0 0 0 [] (SlAt.nil W) (SlAt.nil W)
          clear b2 b1 b1' b2' hO hR fin n1 n2 hx hy
          go_wp2_with fail
          refine (cs _).mono ?_
          rintro e w3 ⟨rfl, q3, rfl⟩
          clear cs
          go_wp2_with fail
          go_end0
          exact ⟨rfl, hf _ (Kept.drewN [] w2 q3)⟩
        · rw [n1] at n2
          cases n2
      · rcases o2 with ⟨n2, _⟩ | ⟨s', n2, z', A', c', o2, hT', hsA', hA', hlow'⟩
        · rw [n1] at n2
          cases n2
        · rw [n1] at n2
          cases n2
          cases o1
          cases o2
          obtain ⟨q1, q2, q3⟩ := Sl.of_wf n1
          obtain ⟨_, g0, g1⟩ := Dev.at_zero b1
          have hm := hdw.many
          have hf := fin (some s) sp [z'] ⟨z, rfl, hT.kept k2 (by simp)⟩ ⟨z', rfl, hT', by simp⟩ (fun j hj => ⟨hlow j hj, hT.lt j hj⟩) (fun j hj => by simp only [List.mem_singleton] at hj; subst hj; exact ⟨hlow', World.lt_of_heap hT'⟩) (fun s2 e2 => by cases e2; exact ⟨q1, by omega, by omega⟩)
          have cs := eqBytes_same w2 A A' _ c c' _ (hsA.kept k2 (by simp)) hsA'
          clear b2 b1 b1' b2' hO hR fin n1 hx hy hT hsA hA hlow hAl hT' hsA' hA' hlow' q1 q2 q3 g0 g1 hm
          go_wp2_with fail
          refine cs.mono ?_
          rintro e w3 ⟨rfl, q3, rfl⟩
          clear cs
          go_wp2_with fail
          go_end0
          exact ⟨rfl, hf _ (Kept.drewN [] w2 q3)⟩
end Go.Proofs.Ytbnflbkaogpnbaa
