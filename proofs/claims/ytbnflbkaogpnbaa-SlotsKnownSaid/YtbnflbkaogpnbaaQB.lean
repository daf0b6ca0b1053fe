/- Texts in one: Q0 Q5. -/
import Derived.Test.YtbnflbkaogpnbaaUA
import Derived.Test.YtbnflbkaogpnbaaMC
import Derived.BigQuiet
import Derived.Test.YtbnflbkaogpnbaaB12
/- muslinref12.SameLists. -/
namespace Go.Proofs.Ytbnflbkaogpnbaa
open Go.RowKit

theorem take_next {l m : List (List UInt8)} {k : Nat} {x y : List UInt8} (hx : l[k]? = some x) (hy : m[k]? = some y) (h : l.take k = m.take k) (he : x = y) : l.take (k + 1) = m.take (k + 1) := by
  obtain ⟨hk, e1⟩ := List.getElem?_eq_some_iff.1 hx
  obtain ⟨hk2, e2⟩ := List.getElem?_eq_some_iff.1 hy
  rw [List.take_succ_eq_append_getElem hk, List.take_succ_eq_append_getElem hk2, h, e1, e2, he]

theorem Calls.quiet_of_drew {P : Program} {f : FuncId} {args : Array Value} {w : World} {q n : Nat} {v : Value}
    (h : Calls P f args (w.drewN (q + n)) fun e w' => e = .returned v ∧ ∃ k, w' = (w.drewN (q + n)).drewN k) : Calls P f args (w.drewN (q + n)) fun e w'' => e = .returned v ∧ ∃ m, w'' = w.drewN (q + m) :=
  h.mono fun _ _ ⟨he, k, hm⟩ => ⟨he, n + k, by rw [hm, World.drewN_drewN, Nat.add_assoc]⟩

def SamePost (w : World) (l m : List (List UInt8)) (e : Ending) (w' : World) : Prop := e = .returned (.bool (decide (l = m))) ∧ ∃ q, w' = w.drewN q

set_option maxHeartbeats 1000000 in
theorem sameLists_any (w : World) (A B : Option Addr) (n c m d : Nat) (l k : List Part) (hx : BytessAt w A n c l) (hy : BytessAt w B m d k) :
    Calls Try.prog 49 #[.slice A n c, .slice B m d] w (SamePost w (texts l) (texts k)) := by
  have hxl := hx.len; have hyl := hy.len
  have hc := hx.le; have hcm := hx.max
  have hd := hy.le; have hdm := hy.max
  have hlx : (texts l).length = n := by simp [texts, hxl]
  have hly : (texts k).length = m := by simp [texts, hyl]
  unfold maxLen at hcm hdm
  have HX := Lib.hid hlx; have HY := Lib.hid hly
  clear hxl hyl hlx hly
  by_cases hnm : n = m
  · subst hnm
    have hb : ((n : Int) != (n : Int)) = false := by simp
    go_enter Try.func49, Try.ntmps49
    go_wp2
    go_loopw [5] (fun i wr => ∃ j q : Nat, j ≤ n ∧ i = .int .i64 j ∧ wr = w.drewN q ∧ (texts l).take j = (texts k).take j) (fun i _ => n - (intOf i).toNat)
    case atStart => exact ⟨0, 0, Nat.zero_le _, rfl, rfl, rfl⟩
    case round =>
      obtain ⟨j, q, hk, rfl, rfl, ht⟩ := hrel
      by_cases hlt : j < n
      · obtain ⟨b, o, p, hA, hbl, hpl, hpa, hcx⟩ := hx.at_ hlt
        obtain ⟨b', o', p', hB, hbl', hpl', hpa', hcy⟩ := hy.at_ hlt
        have htx : (texts l)[j]? = some p.xs := by simp [texts, hpl]
        have hty : (texts k)[j]? = some p'.xs := by simp [texts, hpl']
        have HT := Lib.hid ht; have HTX := Lib.hid htx; have HTY := Lib.hid hty
        clear ht htx hty hpl hpl'
        subst hA hB
        have h2 : (j : Int) < (n : Int) := by omega
        have ce : ∀ i, Calls Try.prog 31 #[.slice p.A p.n p.c, .slice p'.A p'.n p'.c] (w.drewN i) fun e w' => e = .returned (.bool (decide (p.xs = p'.xs))) ∧ ∃ q2, w' = (w.drewN i).drewN q2 := fun i => eqBytes_any _ p.A p'.A p.n p.c p'.n p'.c p.xs p'.xs (hpa.drewN i).1 (hpa'.drewN i).1
        clear hpa hpa'
        by_cases he : p.xs = p'.xs
        · have HE := Lib.hid he
          simp only [decide_eq_true he] at ce
          clear he
          go_wp2
          go_big_quiet (first | (go_at_call 31; exact Calls.quiet_of_drew (ce _)))
          go_wp2
          go_roundw
          case rel => exact ⟨j + 1, _, by omega, by go_num, rfl, take_next HTX.out HTY.out HT.out HE.out⟩
          case measure => simp [intOf]; omega
        · have HE := Lib.hid he
          simp only [decide_eq_false he] at ce
          clear he
          go_wp2
          go_big_quiet (first | (go_at_call 31; exact Calls.quiet_of_drew (ce _)))
          go_wp2
          go_ret
          refine ⟨ret_bool (decide_eq_false fun e => HE.out ?_).symm, _, World.drewN_drewN _ _ _⟩
          have h1 := HTX.out
          rw [e, HTY.out] at h1
          injection h1 with h1
          exact h1.symm
      · have h2 : ¬ (j : Int) < (n : Int) := by omega
        obtain rfl : j = n := by omega
        rw [List.take_of_length_le (by rw [HX.out]; exact Nat.le_refl _), List.take_of_length_le (by rw [HY.out]; exact Nat.le_refl _)] at ht
        have HT := Lib.hid ht
        clear ht
        go_wp2
        go_ret
        exact ⟨ret_bool (decide_eq_true HT.out).symm, q, rfl⟩
  · have hb : ((n : Int) != (m : Int)) = true := by simp; omega
    go_enter Try.func49, Try.ntmps49
    go_wp2
    go_ret
    refine ⟨ret_bool (decide_eq_false fun e => ?_).symm, 0, rfl⟩
    have := congrArg List.length e
    rw [HX.out, HY.out] at this
    exact hnm this

def SameTrue (w : World) (e : Ending) (w' : World) : Prop := e = .returned (.bool true) ∧ ∃ q, w' = w.drewN q

theorem sameLists_true (w : World) (A B : Option Addr) (n c m d : Nat) (l k : List Part) (hx : BytessAt w A n c l) (hy : BytessAt w B m d k) (ht : texts l = texts k) : Calls Try.prog 49 #[.slice A n c, .slice B m d] w (SameTrue w) := by
  refine (sameLists_any w A B n c m d l k hx hy).mono ?_
  rintro e w' ⟨rfl, h⟩
  exact ⟨by rw [decide_eq_true ht], h⟩
end Go.Proofs.Ytbnflbkaogpnbaa

/- A strip beside rows of one's own. -/
namespace Go.Proofs.Ytbnflbkaogpnbaa
open Go.RowKit

/-- What a deed does to the blocks of a strip and its device. -/
structure Step (F F' : List Nat) (w w' : World) : Prop where
  kept : Kept F w w'
  new : ∀ j ∈ F', j ∈ F ∨ w.heap.size ≤ j

/-- The strip s with the records L on the calm device d, its blocks among F, all of it new since w0. -/
structure SdF (w0 w : World) (z a : Nat) (F : List Nat) (s : St) (d : Dev) (L : List (List UInt8)) : Prop where
  sd : SdAt w z a F s d
  low : ∀ j ∈ F, w0.heap.size ≤ j
  inv : SInv s d L
  calm : d.Calm
  kept : Kept [] w0 w

theorem SdF.next {w0 w w' : World} {z a : Nat} {F : List Nat} {s : St} {d : Dev} {L : List (List UInt8)} (h : SdF w0 w z a F s d L) (hk : Kept [] w w') : SdF w0 w' z a F s d L :=
  ⟨h.sd.new hk, h.low, h.inv, h.calm, h.kept.trans hk⟩

/-- A row of one's own, beside F. -/
structure RowIn (base : Nat) (w : World) (t : TypeId) (F : List Nat) (v : Value) (n : Nat) (xs : List Value) : Prop where
  own : w.ownsRow base t 1 v n xs
  ne : ∀ g, v.ownBlock = some g → g ∉ F

theorem RowIn.step {base : Nat} {w w' : World} {t : TypeId} {F F' : List Nat} {v : Value} {n : Nat} {xs : List Value} (h : RowIn base w t F v n xs) (hs : Step F F' w w') : RowIn base w' t F' v n xs :=
  ⟨row_kept h.own hs.kept h.ne, fun g e hm => by
    rcases hs.new g hm with h1 | h1
    · exact h.ne g e h1
    · have := (h.own.lt g e).2; omega⟩

theorem RowIn.next {base : Nat} {w w' : World} {t : TypeId} {F : List Nat} {v : Value} {n : Nat} {xs : List Value} (h : RowIn base w t F v n xs) (hk : Kept [] w w') : RowIn base w' t F v n xs := ⟨row_kept h.own hk (by simp), h.ne⟩

/-- Beside another row that grows. -/
theorem RowIn.other {base : Nat} {w w' : World} {t : TypeId} {F : List Nat} {v u : Value} {n : Nat} {xs : List Value} (h : RowIn base w t F v n xs) (hk : Kept u.ownBlock.toList w w') (hne : ∀ g, v.ownBlock = some g → u.ownBlock ≠ some g) : RowIn base w' t F v n xs :=
  ⟨row_kept h.own hk (fun j e hm => hne j e (by simpa using hm)), h.ne⟩

theorem SdF.row {w0 w w' : World} {z a : Nat} {F : List Nat} {s : St} {d : Dev} {L : List (List UInt8)} {t : TypeId} {v : Value} {n : Nat} {xs : List Value} (h : SdF w0 w z a F s d L) (hr : RowIn w0.heap.size w t F v n xs) (hk : Kept v.ownBlock.toList w w') : SdF w0 w' z a F s d L :=
  ⟨h.sd.kept hk (fun j hj hm => hr.ne j (by simpa using hm) hj), h.low, h.inv, h.calm, h.kept.trans' hk (fun j hj => .inr (hr.own.lt j (by simpa using hj)).1)⟩

/-- A row to which one is appended. -/
theorem RowIn.push {base : Nat} {w w1 w2 : World} {t : TypeId} {F : List Nat} {v : Value} {n : Nat} {xs ys : List Value} (h : RowIn base w t F v n xs) (hF : ∀ j ∈ F, j < w.heap.size) (hk : Kept [] w w1) (hg : w1.grownBy w2 v.ownBlock) {g cap H n' : Nat}
    (hown : w2.ownsRow base t 1 (.slice (some ⟨g, 0, none⟩) n' cap) n' ys) (hat : v.ownBlock = some g ∨ g = H) (hH : w1.heap.size = H) : RowIn base w2 t F (.slice (some ⟨g, 0, none⟩) n' cap) n' ys ∧ Kept v.ownBlock.toList w w2 ∧ ∀ u : Value, (∀ k, u.ownBlock = some k → k < w.heap.size) → (∀ k, v.ownBlock = some k → u.ownBlock ≠ some k) → u.ownBlock ≠ some g := by
  have hs := hk.size
  refine ⟨⟨hown, fun k e hm => ?_⟩, (hk.mono (by simp)).trans (Kept.grown (F := v.ownBlock.toList) hg (fun i e => by rw [e]; simp)), fun u hu hne e => ?_⟩
  · have e2 : g = k := by simpa [Value.ownBlock] using e
    subst e2
    rcases hat with h1 | h1
    · exact h.ne _ h1 hm
    · have := hF _ hm; omega
  · rcases hat with h1 | h1
    · exact hne g h1 e
    · have := hu g e; omega

def FitsF (w0 w : World) (z a : Nat) (F : List Nat) (s : St) (d : Dev) (L : List (List UInt8)) (b : List UInt8) (e : Ending) (w' : World) : Prop :=
  e = .returned (.int .i64 0) ∧ ∃ s' d' F', SdF w0 w' z a F' s' d' (L ++ [b]) ∧ FitsD s d b s' d' ∧ Step F F' w w'

theorem SdF.fits {w0 w : World} {z a : Nat} {F : List Nat} {s : St} {d : Dev} {L : List (List UInt8)} (h : SdF w0 w z a F s d L) (A : Option Addr) (n c : Nat) (b : List UInt8) (hb : SlAt w A n c (u8vs b)) (hA : A = none → c = 0)
    (hn : b.length ≤ 16384) (hr : s.fin + (b.length + 7) ≤ 128 * s.many) (hwk : d.works < 9223372036854000000) : Calls Try.prog 47 #[.pointer (some ⟨z, 0, none⟩), .slice A n c] w (FitsF w0 w z a F s d L b) := by
  refine (sd_fits h.sd h.inv h.calm A n c b hb hA hn hr hwk).mono ?_
  rintro e w' ⟨rfl, s', d', F', k1, k2, k3, k4, k5, k6⟩
  refine ⟨rfl, s', d', F', ⟨k1, fun j hj => ?_, k2, k3, h.kept.trans' k5 (fun j hj => .inr (h.low j hj))⟩, k4, ⟨k5, k6⟩⟩
  rcases k6 j hj with e | e
  · exact h.low j e
  · exact Nat.le_trans h.kept.size e

/-- A deed of the device that keeps its sectors. -/
def SameF (w0 w : World) (z a : Nat) (F : List Nat) (s : St) (d' : Dev) (L : List (List UInt8)) (e : Ending) (w' : World) : Prop :=
  e = .returned (.int .i64 0) ∧ ∃ F', SdF w0 w' z a F' s d' L ∧ Step F F' w w'

theorem SInv.same {s : St} {d d' : Dev} {L : List (List UInt8)} (h : SInv s d L) (hs : d'.secs = d.secs) : SInv s d' L :=
  ⟨⟨h.wf.one, by rw [hs]; exact h.wf.there, h.wf.fin, h.wf.last⟩, by unfold Dev.bytesAt; rw [hs]; exact h.last, h.small, by unfold Dev.bytesAt; rw [hs]; exact h.rows⟩

theorem SdF.flush {w0 w : World} {z a : Nat} {F : List Nat} {s : St} {d : Dev} {L : List (List UInt8)} (h : SdF w0 w z a F s d L) (hwk : d.works < 9223372036854775807) :
    ∃ d', d'.secs = d.secs ∧ d'.works = d.works + 1 ∧ d'.Sure d.secs ∧ Calls Try.prog 23 #[.pointer (some ⟨a, 0, none⟩)] w (SameF w0 w z a F s d' L) := by
  obtain ⟨d', e1, e2, e3, e4, e5⟩ := h.calm.flush
  refine ⟨d', e3, e4, e5, ?_⟩
  have hc := sd_dv h.sd (f := 23) (args := #[.pointer (some ⟨a, 0, none⟩)]) (r := d.flush) (fun fp hD _ => flush_dv hD hwk)
  rw [e1] at hc
  refine hc.mono ?_
  rintro e w' ⟨rfl, F', g1, g2, g3⟩
  refine ⟨rfl, F', ⟨g1, fun j hj => ?_, h.inv.same e3, e2, h.kept.trans' g2 (fun j hj => .inr (h.low j hj))⟩, g2, g3⟩
  rcases g3 j hj with e | e
  · exact h.low j e
  · exact Nat.le_trans h.kept.size e

theorem SdF.fin {w0 w : World} {z a : Nat} {F : List Nat} {s : St} {d : Dev} {L : List (List UInt8)} (h : SdF w0 w z a F s d L) : Calls Try.prog 48 #[.pointer (some ⟨z, 0, none⟩)] w fun e w' => e = .returned (.int .i64 s.fin) ∧ w = w' := sd_end h.sd

theorem SdF.dv {w0 w : World} {z a : Nat} {F : List Nat} {s : St} {d : Dev} {L : List (List UInt8)} (h : SdF w0 w z a F s d L) : ∃ fp, Dv w a fp d ∧ ∀ j ∈ fp, j ∈ F := by
  obtain ⟨fp, sp, h1, _, _, h4⟩ := h.sd.parts
  exact ⟨fp, h1, fun j hj => h4 j (.inl hj)⟩

/-- A new device, and a strip opened on it. -/
def NewF (w0 : World) (a : Nat) (d : Dev) (first many : Nat) (e : Ending) (w' : World) : Prop :=
  ∃ z s A c F, e = .returned (.tuple #[.pointer (some ⟨z, 0, none⟩), .slice A 0 c, .int .i64 0]) ∧ SdF w0 w' z a F s d [] ∧ s.first = first ∧ s.many = many ∧ s.fin = 0

theorem openF {w0 w : World} {a : Nat} {fp : List Nat} {d : Dev} (hD : Dv w a fp d) (hd : d.Calm) (hk : Kept [] w0 w) (hN : ∀ j ∈ fp, w0.heap.size ≤ j) {first many : Nat} (hm : 1 ≤ many) (hf : first + many ≤ d.secs.length) :
    Calls Try.prog 46 #[.pointer (some ⟨a, 0, none⟩), .int .i64 first, .int .i64 many, .int .i64 0] w (NewF w0 a d first many) := by
  refine (open_ok hD hd (fin := 0) hm hf (by omega) (l := []) (by simp [Small]) (by simp [recs_nil])).mono ?_
  rintro e w' ⟨h0, z, F, A, n, c, ps, s, rfl, h1, h2, h3, h4, h5, h6, h7, h8, h9, _⟩
  have hn : n = 0 := by
    rw [← h1.len]
    have := congrArg List.length h2
    simpa [texts] using this
  subst hn
  refine ⟨z, s, A, c, F, rfl, ⟨h3, fun j hj => ?_, h4, hd, hk.trans h0⟩, h5, h6, h7⟩
  rcases h8 j hj with e | e
  · exact hN j e
  · exact Nat.le_trans hk.size e

/-- A row of parts, as an argument. -/
theorem RowIn.parts {base : Nat} {w : World} {F : List Nat} {v : Value} {n : Nat} {ps : List Part} (h : RowIn base w 34 F v n (ps.map Part.val)) (hp : ∀ p ∈ ps, p.At w) : ∃ A c, v = .slice A n c ∧ BytessAt w A n c ps := BytessAt.of_own h.own hp

/-- A part of which the first K bytes are taken. -/
def Part.low (K : Nat) (p : Part) : Part := ⟨p.A, min p.n K, p.c, p.xs.take K⟩

theorem Part.At.low {w : World} {p : Part} (h : p.At w) (K : Nat) : (p.low K).At w := by
  obtain ⟨m, h1, h2, h3, h4, h5⟩ := part_low h K
  have hm : m = min p.n K := by omega
  subst hm
  have := h5 0
  rw [World.drewN_zero] at this
  exact ⟨this, h.2⟩

theorem one_news (X : World) (v : Value) (t : TypeId) : ∀ j u, [v][j]? = some u → (X.alloc (.cells #[v] t)).cell? ((⟨X.heap.size, 0, none⟩ : Addr).add j) = some u := fun j u hj => by
  have hj0 : j = 0 := by have := (List.getElem?_eq_some_iff.1 hj).1; simp at this; exact this
  subst hj0
  rw [add_block, blk_cell (heap_alloc_new _ _)]
  simpa using hj

theorem one_slice (A : Option Addr) (n c : Nat) : ∀ u ∈ [Value.slice A n c], u.oneCell' = true := fun u hu => by simp at hu; subst hu; rfl
theorem one_int (k : IntKind) (n : Int) : ∀ u ∈ [Value.int k n], u.oneCell' = true := fun u hu => by simp at hu; subst hu; rfl

theorem recs_prefix_len (l m : List (List UInt8)) : (recs (l ++ m)).length = (recs l).length + (recs m).length := by rw [recs_append, List.length_append]

theorem texts_take (cp : List Part) {k : Nat} {p : Part} (h : cp[k]? = some p) : texts (cp.take (k + 1)) = texts (cp.take k) ++ [p.xs] := by
  rw [take_part h]; simp [texts]

theorem texts_split (cp : List Part) {j k : Nat} (h : j ≤ k) : ∃ m, texts (cp.take k) = texts (cp.take j) ++ m := by
  refine ⟨texts ((cp.take k).drop j), ?_⟩
  have e : cp.take k = cp.take j ++ (cp.take k).drop j := by
    have h1 := List.take_append_drop j (cp.take k)
    rw [List.take_take, Nat.min_eq_left h] at h1
    exact h1.symm
  unfold texts
  rw [← List.map_append, ← e]

/-- Up to where the first records end, a strip has these. -/
theorem SInv.head {s : St} {d : Dev} {L M : List (List UInt8)} (h : SInv s d (L ++ M)) (hd : d.Calm) : (d.bytesAt s.first).take (recs L).length = recs L := by
  have h1 := h.rows
  have h2 := h.fin hd.size
  have h3 : (recs L).length ≤ s.fin := by rw [h2, recs_prefix_len]; omega
  have h4 := congrArg (List.take (recs L).length) h1
  rw [List.take_take, Nat.min_eq_left h3, recs_append, List.take_left] at h4
  exact h4
end Go.Proofs.Ytbnflbkaogpnbaa
