/- The examples of chapter 11: awake. -/
import Derived.Test.YtbnflbkaogpnbaaO6
import Derived.Lib.SlBytesConst
namespace Go.Proofs.Ytbnflbkaogpnbaa
set_option linter.unusedVariables false
open Go.RowKit

/-- A Save of a calm device, of which all is sure. -/
theorem SlOn.saveC {s : Sl} {d : Dev} (h : SlOn s d) (hd : d.Calm) (hq : d.Sure d.secs) (ht : s.turn + 1 ≤ 1000000) {b : List UInt8} (hb : b.length ≤ 100) :
    ∃ d', s.save d b = (s.next b, d', 0) ∧ SlOn (s.next b) d' ∧ d'.Calm ∧ d'.Sure d'.secs ∧ d'.secs = d.secs.set (s.first + s.which) (slotB (s.turn + 1) b) ∧ d'.works = d.works + 2 := by
  have hf := hd.fail; have htl := hd.till
  have h1 := h.save hd.live (by omega) (by omega) hq hb
  obtain ⟨S, D, e, hS⟩ : ∃ S D e, s.save d b = (S, D, e) := ⟨_, _, _, rfl⟩
  rw [hS] at h1
  rcases h1.ways with ⟨e0, e1, e2, e3, e4, e5, e6, e7, e8, e9⟩ | ⟨_, _, e2, _⟩ | ⟨_, _, e2, _⟩
  · simp only at e0 e1 e2 e3 e4 e5 e6 e7 e8 e9
    subst e0 e1
    exact ⟨D, hS, h.set ht hb (fun i _ => by rw [e2]) (by rw [e2, List.length_set]), e3.calm (by omega) (by omega), e4, e2, e5⟩
  · omega
  · omega

/-- Slots on a device, all of it new since w0. -/
structure TdF (w0 w : World) (z a : Nat) (F : List Nat) (s : Sl) (d : Dev) : Prop where
  at_ : TdAt w z a F s d
  low : ∀ j ∈ F, w0.heap.size ≤ j
  kept : Kept [] w0 w

theorem TdF.next {w0 w w' : World} {z a : Nat} {F : List Nat} {s : Sl} {d : Dev} (h : TdF w0 w z a F s d) (hk : Kept [] w w') : TdF w0 w' z a F s d := ⟨h.at_.new hk, h.low, h.kept.trans hk⟩

theorem TdF.step {w0 w w' : World} {z a : Nat} {F F' : List Nat} {s s' : Sl} {d d' : Dev} (h : TdF w0 w z a F s d) (hT : TdAt w' z a F' s' d') (hs : Step F F' w w') : TdF w0 w' z a F' s' d' :=
  ⟨hT, fun j hj => by
    rcases hs.new j hj with e | e
    · exact h.low j e
    · exact Nat.le_trans h.kept.size e, h.kept.trans' hs.kept (fun i hi => .inr (h.low i hi))⟩

theorem TdF.dv {w0 w : World} {z a : Nat} {F : List Nat} {s : Sl} {d : Dev} (h : TdF w0 w z a F s d) : ∃ fp, Dv w a fp d ∧ ∀ j ∈ fp, j ∈ F := h.at_.dv

/-- What a Save that is well leaves. -/
def SaveC (w0 w : World) (z a : Nat) (F : List Nat) (s : Sl) (d : Dev) (b : List UInt8) (e : Ending) (w' : World) : Prop :=
  e = .returned (.int .i64 0) ∧ ∃ d' F', TdF w0 w' z a F' (s.next b) d' ∧ SlOn (s.next b) d' ∧ d'.Calm ∧ d'.Sure d'.secs ∧ d'.secs = d.secs.set (s.first + s.which) (slotB (s.turn + 1) b) ∧ d'.works = d.works + 2 ∧ Step F F' w w'

theorem TdF.saveC {w0 w : World} {z a : Nat} {F : List Nat} {s : Sl} {d : Dev} (h : TdF w0 w z a F s d) (hs : SlOn s d) (hd : d.Calm) (hq : d.Sure d.secs) (ht : s.turn + 1 ≤ 1000000) (A : Option Addr) (n c : Nat) (b : List UInt8) (hb : SlAt w A n c (u8vs b)) (hbl : b.length ≤ 100) (hwk : d.works < 9223372036854000000) :
    Calls Try.prog 53 #[.pointer (some ⟨z, 0, none⟩), .slice A n c] w (SaveC w0 w z a F s d b) := by
  obtain ⟨d', e1, e2, e3, e4, e5, e6⟩ := hs.saveC hd hq ht hbl
  obtain ⟨x, y, _, _, h3⟩ := hs.pair
  obtain ⟨fp, hD, _⟩ := h.dv
  have hmany := hD.wf.many
  have hth := hs.there
  have hc := td_save h.at_ h3.newer (by omega) (by omega) A n c b hb hwk
  rw [e1] at hc
  refine hc.mono ?_
  rintro e w' ⟨rfl, F', g1, g2⟩
  exact ⟨rfl, d', F', h.step g1 g2, e2, e3, e4, e5, e6, g2⟩

/-- A new device's slots. -/
def NewSl (w0 : World) (a : Nat) (d : Dev) (f : Nat) (e : Ending) (w' : World) : Prop :=
  ∃ z F A c, e = .returned (.tuple #[.pointer (some ⟨z, 0, none⟩), .slice A 0 c, .int .i64 0]) ∧ TdF w0 w' z a F ⟨f, 0, 0, []⟩ d

theorem slots_new {w0 w : World} {a : Nat} {fp : List Nat} {n f : Nat} (hD : Dv w a fp (Dev.new n)) (hk : Kept [] w0 w) (hN : ∀ j ∈ fp, w0.heap.size ≤ j) (hf : f + 1 < n) :
    Calls Try.prog 52 #[.pointer (some ⟨a, 0, none⟩), .int .i64 f] w (NewSl w0 a (Dev.new n) f) := by
  refine (slots_ok hD rfl (SlOn.new hf)).mono ?_
  rintro e w' ⟨h0, z, F, A, c, rfl, h1, h2, h3, h4, h5⟩
  refine ⟨z, F, A, c, rfl, h1, fun j hj => ?_, hk.trans h0⟩
  rcases h2 j hj with e | e
  · exact hN j e
  · exact Nat.le_trans hk.size e

theorem SlOn.first2 {s : Sl} {d : Dev} (h : SlOn s d) : s.first + 1 < d.secs.length := h.there

/-- A slot that was turned behind its text. -/
theorem readSlot_turned {t : Nat} {b : List UInt8} (h1 : 1 ≤ t) (h2 : t ≤ 9007199254740991) (hb : b.length ≤ 41) {v : UInt8} (hv : (slotB t b)[50]? ≠ some v) : readSlot ((slotB t b).set 50 v) = none := by
  have hl : (slotB t b).length = 128 := length_slotB (by omega)
  have e8 : ((slotB t b).set 50 v).take 8 = big8 t := by rw [List.take_set, List.set_eq_of_length_le (by simp [hl]), slotB_take]
  have en : (((slotB t b).set 50 v)[8]?.getD 0).toNat = b.length := by rw [List.getElem?_set_ne (by omega), slotB_size (by omega)]
  have et : (((slotB t b).set 50 v).drop 9).take b.length = b := by
    rw [List.drop_set, if_neg (by omega), List.take_set, List.set_eq_of_length_le (by rw [List.length_take]; omega), slotB_text]
  have hne : slotB t b ≠ (slotB t b).set 50 v := fun e => hv (by
    have h3 : (slotB t b)[50]? = ((slotB t b).set 50 v)[50]? := congrArg (fun l : List UInt8 => l[50]?) e
    rw [h3, List.getElem?_set_self (by omega)])
  have hz : (slotB t b).set 50 v ≠ zeros := fun e => by
    have h3 := congrArg (fun l => num8 (l.take 8)) e
    simp only [e8, num8_big8 (show t < 18446744073709551616 by omega)] at h3
    have h4 : num8 (zeros.take 8) = 0 := by decide
    omega
  have hno : ¬ (num8 (((slotB t b).set 50 v).take 8) = 0 ∨ 9007199254740991 < num8 (((slotB t b).set 50 v).take 8) ∨ 100 < (((slotB t b).set 50 v)[8]?.getD 0).toNat) := by
    rw [e8, num8_big8 (by omega), en]
    omega
  rw [readSlot_some hz hno, e8, num8_big8 (by omega), en, et, if_neg hne]

theorem own_set {w : World} {base g n c : Nat} {X : List UInt8} (h : w.ownsRow base 5 1 (.slice (some ⟨g, 0, none⟩) n c) n (u8vs X)) {i : Nat} (hi : i < n) (x : UInt8) :
    (w.setCell ⟨g, i, none⟩ (u8v x)).ownsRow base 5 1 (.slice (some ⟨g, 0, none⟩) n c) n (u8vs (X.set i x)) := by
  obtain ⟨h1, h2⟩ := h
  rcases h2 with ⟨e, _⟩ | ⟨g2, c2, cur, e, hb, hg, a1, a2, a3, a4⟩
  · cases e
  · cases e
    refine ⟨by simp only [u8vs, List.length_map, List.length_set] at h1 ⊢; exact h1, .inr ⟨g, c, _, rfl, hb, heap_set hg i (u8v x), a1, a2, by simpa using a3, ?_⟩⟩
    have e : (cur.setIfInBounds i (u8v x)).toList = cur.toList.set i (u8v x) := by simp
    rw [e, Nat.mul_one, List.take_set]
    rw [Nat.mul_one] at a4
    rw [a4]
    simp [u8vs, List.map_set]

set_option maxHeartbeats 4000000 in
set_option maxRecDepth 100000 in
theorem awake11_any (w : World) : Calls Try.prog 55 #[] w (TruePost w) := by
  obtain ⟨j0, hj0, ju0, ju1, ju2⟩ := info_parts info_u8
  have hm1 := fun wx : World => run_make (P := Try.prog) wx 34 5 j0 _ Try.underlying34 hj0 ju0 .i64 .i64 101 101 (by omega) (Int.le_refl _) (by rw [ju2]; omega) (by omega)
  simp only [ju1, show Int.toNat 101 = 101 from rfl, Nat.mul_one, show (Value.int .u8 0).cells = #[.int .u8 0] from rfl] at hm1
  have kc := fun (w : World) (C : Array Value) (n c : Nat) => Lib.run_convert_bytes_const (P := Try.prog) w 34 5 C n c Try.underlying34 Try.underlying5
  go_enter Try.func55, Try.ntmps55
  go_wp2_with fail
  refine (new_any 3 _ (by omega) (by omega)).mono ?_
  rintro e w1 ⟨a, f1, rfl, hD1, hA1, hN1⟩
  go_wp2_with fail
  refine (slots_new (n := 3) (f := 1) hD1 hA1 hN1 (by omega)).mono ?_
  rintro e w2 ⟨z, F, A, c, rfl, h2⟩
  clear hD1
  go_wp2_with fail
  refine (td_turn h2.at_).mono ?_
  rintro e w3 ⟨rfl, rfl⟩
  go_wp2_with fail
  refine ((h2.next (Kept.alloc [] w2 (.cells #[.int .u8 97] 5 (1, 2)))).saveC (SlOn.new (n := 3) (f := 1) (by omega)) (new_calm 3) (Dev.Sure.new 3) (by decide) _ 1 1 [97] (SlAt.blk (heap_alloc_new _ _) rfl (by unfold maxLen; omega)) (by decide) (by decide)).mono ?_
  rintro e w3 ⟨rfl, d1, F1, h3, hs1, hc1, hq1, hS1, hW1, _⟩
  have hwk1 : d1.works = 2 := hW1
  have HS1 := Lib.hid hS1
  clear h2 hS1 hW1
  go_wp2_with fail
  refine ((h3.next (Kept.alloc [] w3 (.cells #[.int .u8 98] 5 (1, 2)))).saveC hs1 hc1 hq1 (by decide) _ 1 1 [98] (SlAt.blk (heap_alloc_new _ _) rfl (by unfold maxLen; omega)) (by decide) (by omega)).mono ?_
  rintro e w4 ⟨rfl, d2, F2, h4, hs2, hc2, hq2, hS2, hW2, _⟩
  have hwk2 : d2.works = 4 := by rw [hW2, hwk1]; rfl
  have hS2' : d2.secs = [zeros, slotB 1 [97], slotB 2 [98]] := by rw [hS2, HS1.out]; rfl
  have HS2 := Lib.hid hS2'; have HWK2 := Lib.hid hwk2
  clear h3 hs1 hc1 hq1 hS2 hW2 HS1 hwk1 hwk2 hS2'
  obtain ⟨fa, hDa, _⟩ := h4.dv
  go_wp2_with fail
  refine (opens11_true hDa hc2.dead hs2 [98] 2 rfl rfl).mono ?_
  rintro e w5 ⟨rfl, hk5⟩
  have h5 := h4.next hk5
  clear h4 hDa hk5
  obtain ⟨fb, hDb, _⟩ := h5.dv
  go_wp2_with fail
  refine (read_dv hDb 2 (at_live hc2.dead (i := 2) (by rw [HS2.out]; decide)) (b := slotB 2 [98]) (by rw [HS2.out]; rfl)).mono ?_
  rintro e w6 ⟨A6, c6, rfl, hown6, hbel6⟩
  have h6 := h5.next (Kept.of_below (F := []) hbel6)
  obtain ⟨g6, cc6, e6, hg6, hl6⟩ := hown6.form (by omega)
  cases e6
  have hk56 := h5.kept.size
  have hx50 : w6.cell? ⟨g6, 50, none⟩ = some (.int .u8 0) := by
    obtain ⟨hs6, _⟩ := ClonePost.sl hown6
    obtain ⟨b2, o2, e2, _, hc⟩ := hs6.cells (by omega)
    cases e2
    have h7 := hc 50 (by omega)
    rw [Nat.zero_add] at h7
    rw [h7]
    rfl
  have hf50 : w6.frozen? ⟨g6, 50, none⟩ = false := by
    rcases hown6.2 with ⟨e, _⟩ | ⟨g, cap, cur, e, _, hh, _⟩
    · cases e
    · cases e
      exact blk_frozen hh 50
  have hb4 : bits .xor .u8 0 4 = 4 := by decide
  have hc6le := (ClonePost.sl hown6).1.le
  have hc6max := (ClonePost.sl hown6).1.max
  unfold maxLen at hc6max
  have hown7 : (w6.setCell ⟨g6, 50, none⟩ (.int .u8 4)).ownsRow w5.heap.size 5 1 (.slice (some ⟨g6, 0, none⟩) 128 c6) 128 (u8vs ((slotB 2 [98]).set 50 4)) := own_set hown6 (i := 50) (by omega) 4
  have hlt5 := h5.at_.lt
  have hks7 : Kept [g6] w6 (w6.setCell ⟨g6, 50, none⟩ (.int .u8 4)) := Kept.setCell (by simp) _
  have h7 : TdF w (w6.setCell ⟨g6, 50, none⟩ (.int .u8 4)) z a F2 _ d2 := ⟨h6.at_.kept hks7 (fun j hj hm => by have := hlt5 j hj; simp at hm; omega), h6.low, h6.kept.trans' hks7 (fun i hi => .inr (by simp at hi; omega))⟩
  obtain ⟨fc, hDc, hFc⟩ := h7.dv
  have hgF : ∀ j ∈ fc, j < w5.heap.size := fun j hj => hlt5 j (hFc j hj)
  have HOWN := Lib.hid hown7
  clear h5 hDb hbel6 h6 hks7 hown6 hown7
  go_wp2_with fail
  generalize w6.setCell ⟨g6, 50, none⟩ (.int .u8 4) = w7 at *
  obtain ⟨hs7, _⟩ := ClonePost.sl (w := w5) HOWN.out
  obtain ⟨x', hx'⟩ : ∃ x', (slotB 2 [98]).set 50 4 = x' := ⟨_, rfl⟩
  have hxl : x'.length = 128 := by rw [← hx', List.length_set]; exact length_slotB (by decide)
  have hxn : readSlot x' = none := by rw [← hx']; exact readSlot_turned (by omega) (by omega) (by decide) (fun e => by revert e; decide)
  rw [hx'] at hs7
  obtain ⟨d3, e3, hc3, hS3, hW3, hq3⟩ : ∃ d3, d2.write 2 x' = (d3, 0) ∧ d3.Calm ∧ d3.secs = d2.secs.set 2 x' ∧ d3.works = d2.works + 1 ∧ True := by
    obtain ⟨k1, k2, k3, k4, _⟩ := hc2.write (i := 2) (by rw [HS2.out]; decide) hxl
    exact ⟨_, k1, k2, k3, k4, trivial⟩
  have hcw := td_dv h7.at_ (f := 24) (args := #[.pointer (some ⟨a, 0, none⟩), .int .i64 2, .slice (some ⟨g6, 0, none⟩) 128 c6]) (r := d2.write 2 x') (fun fp hD hF => write_dv hD 2 x' _ 128 c6 hs7 (fun p e hm => by cases e; have h8 : g6 < w5.heap.size := hlt5 _ (hF _ hm); omega) (by rw [HWK2.out]; omega))
  rw [e3] at hcw
  have hS3' : d3.secs = [zeros, slotB 1 [97], x'] := by rw [hS3, HS2.out]; rfl
  have hwk3 : d3.works = 5 := by rw [hW3, HWK2.out]; rfl
  have HS3 := Lib.hid hS3'; have HX := Lib.hid hxn; have HWK3 := Lib.hid hwk3
  clear hx' e3 hS3 hW3 hS3' hxn hDc HOWN hwk3
  refine hcw.mono ?_
  rintro e w8 ⟨rfl, F8, k8, st8⟩
  have h8 := h7.step k8 st8
  clear hcw h7 k8 st8
  obtain ⟨fd, hDd, _⟩ := h8.dv
  go_wp2_with fail
  refine (slots_no hDd hc3.dead (f := 1) (by rw [HS3.out]; simp) (x := slotB 1 [97]) (y := x') (by rw [HS3.out]; rfl) (by rw [HS3.out]; rfl) (by unfold Sl.of; rw [HX.out]; cases readSlot (slotB 1 [97]) <;> rfl)).mono ?_
  rintro e w9 ⟨rfl, hk9⟩
  have h9 := h8.next hk9
  clear h8 hDd hk9
  obtain ⟨fe, hDe, _⟩ := h9.dv
  have ha2 : d3.at_ 2 = 0 := at_live hc3.dead (i := 2) (by rw [HS3.out]; simp)
  have ha3 : d3.at_ (2 + 1) = 9 := by unfold Dev.at_; rw [hc3.dead, HS3.out]; rfl
  have cr := slots_range hDe 2 (by unfold I64; omega) ha2 (by rw [ha3]; decide)
  rw [ha3] at cr
  clear ha2 ha3
  go_wp2_with fail
  refine cr.mono ?_
  rintro e wa ⟨rfl, hka⟩
  have ha := h9.next hka
  clear h9 hDe hka cr
  go_wp2_with fail
  have hb := ha.next (Kept.alloc [] wa (.cells (madeCells #[.int .u8 0] 101) 5))
  have cs := td_save hb.at_ (by decide) (by decide) (by decide) _ 101 101 (List.replicate 101 0) (made_sl wa 101 (by unfold maxLen; omega)) (by rw [HWK3.out]; omega)
  have es : ∀ (s : Sl) (d : Dev), s.save d (List.replicate 101 0) = (s, d, 2) := fun s d => by unfold Sl.save; rw [if_pos (by rw [List.length_replicate]; omega)]
  rw [es] at cs
  refine cs.mono ?_
  rintro e wc ⟨rfl, F9, k9, st9⟩
  have hkc := (hb.step k9 st9).kept
  clear cs hb ha k9 st9 es
  go_wp2_with fail
  go_ret
  exact ⟨rfl, hkc⟩
end Go.Proofs.Ytbnflbkaogpnbaa
