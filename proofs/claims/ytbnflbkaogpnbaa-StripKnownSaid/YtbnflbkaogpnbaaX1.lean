/- The document's device: its small functions. CopyBytes, CopyInts. -/
import Derived.Test.YtbnflbkaogpnbaaX0
namespace Go.Proofs.Ytbnflbkaogpnbaa
open Go.RowKit

set_option maxHeartbeats 400000 in
theorem copyBytes_any (w : World) (A : Option Addr) (n c : Nat) (xs : List UInt8) (hx : SlAt w A n c (u8vs xs)) (hn : n ≤ 140737488355328) :
    Calls Try.prog 82 #[.slice A n c] w (ClonePost w 5 n (u8vs xs)) := by
  obtain ⟨i0, hi, hz0, hz1, hz2⟩ := info_parts info_u8
  rcases A with _ | ad
  · obtain ⟨rfl, h0⟩ := hx.none_zero
    rw [h0]
    clear hn
    go_enter Try.func82, Try.ntmps82
    go_wp2
    go_ret
    exact ClonePost.mk (World.ownsRow_nil _ _ _ _) (Below.refl _ _)
  · have hb : w.ownsRow w.heap.size 5 1 (.slice none 0 0) 0 [] := World.ownsRow_nil _ _ _ _
    have s1 : (u8vs xs).length = n * 1 := by rw [hx.len]; omega
    have s4 : 0 + n ≤ maxLen := by unfold maxLen; omega
    have s5 : (0 + n) * 1 ≤ 140737488355328 := by omega
    have S1 := Lib.hid s1; clear s1
    go_enter Try.func82, Try.ntmps82
    go_wp2_with (at_builtin; refine wpList_append_own _ rfl _ _ 34 rfl w.heap.size 5 i0 (.int .u8 0) 1 1 Try.underlying34 hi hz0 hz1 hz2 rfl (by decide) _ _ _ rfl hb ad n c (u8vs xs) rfl S1.out hx.news (one_u8 xs) s4 s5 (Nat.le_refl _) ?_; intro v' w1 hown' hgrow _)
    go_ret
    simp only [Nat.zero_add, List.nil_append] at hown'
    exact ClonePost.mk hown' ((Below.refl _ w).grown hgrow (by simp) (fun k e => by cases e))

set_option maxHeartbeats 400000 in
theorem copyInts_any (w : World) (A : Option Addr) (n c : Nat) (xs : List Int) (hx : SlAt w A n c (xs.map i64v)) (hn : n * 8 ≤ 140737488355328) :
    Calls Try.prog 38 #[.slice A n c] w (ClonePost w 3 n (xs.map i64v)) := by
  obtain ⟨i0, hi, hz0, hz1, hz2⟩ := info_parts info_int
  rcases A with _ | ad
  · obtain ⟨rfl, h0⟩ := hx.none_zero
    rw [h0]
    clear hn
    go_enter Try.func38, Try.ntmps38
    go_wp2
    go_ret
    exact ClonePost.mk (World.ownsRow_nil _ _ _ _) (Below.refl _ _)
  · have hb : w.ownsRow w.heap.size 3 1 (.slice none 0 0) 0 [] := World.ownsRow_nil _ _ _ _
    have s1 : (xs.map i64v).length = n * 1 := by rw [hx.len]; omega
    have s4 : 0 + n ≤ maxLen := by unfold maxLen; omega
    have s5 : (0 + n) * 8 ≤ 140737488355328 := by omega
    have S1 := Lib.hid s1; clear s1
    go_enter Try.func38, Try.ntmps38
    go_wp2_with (at_builtin; refine wpList_append_own _ rfl _ _ 23 rfl w.heap.size 3 i0 (.int .i64 0) 1 8 Try.underlying23 hi hz0 hz1 hz2 rfl (by decide) _ _ _ rfl hb ad n c (xs.map i64v) rfl S1.out hx.news (one_i64 xs) s4 s5 (Nat.le_refl _) ?_; intro v' w1 hown' hgrow _)
    go_ret
    simp only [Nat.zero_add, List.nil_append] at hown'
    exact ClonePost.mk hown' ((Below.refl _ w).grown hgrow (by simp) (fun k e => by cases e))

/-- What a step of the head does. -/
def HdPost (w : World) (r B cap : Nat) (l : List One) (fp : List Nat) (s' : RS) (e0 e : Ending) (w' : World) : Prop := e = e0 ∧ RefAt w' r B cap l fp s' ∧ Kept [r] w w'

theorem max_less {n : Int} (h : 0 ≤ n) : max (n - 1) (-1) = n - 1 := by omega

set_option maxHeartbeats 400000 in
theorem refFails_any {w : World} {r B cap : Nat} {l : List One} {fp : List Nat} {s : RS} (h : RefAt w r B cap l fp s) (h0 : -1 ≤ s.fail) (h1 : s.fail ≤ 9223372036854775807) :
    Calls Try.prog 106 #[.pointer (some ⟨r, 0, none⟩)] w (HdPost w r B cap l fp { s with fail := max (s.fail - 1) (-1) } (.returned (.bool (decide (s.fail = 0))))) := by
  obtain ⟨c0, c1, c3, c4, c5, c6, cf⟩ := h.cells
  clear c0 c3 c4 c5 c6
  by_cases hn : s.fail < 0
  · have e : s.fail = -1 := by omega
    have hs : { s with fail := max (s.fail - 1) (-1) } = s := by
      rw [e]; cases s; simp only at e; subst e; rfl
    rw [hs, decide_eq_false (by omega)]
    clear hs e
    go_enter Try.func106, Try.ntmps106
    go_wp2
    go_ret
    exact ⟨rfl, h, Kept.refl _ _⟩
  · rw [max_less (by omega)]
    have hk : Kept [r] w (w.setCell ⟨r, 1, none⟩ (.int .i64 (s.fail - 1))) := Kept.setCell (by simp) _
    have hR : RefAt (w.setCell ⟨r, 1, none⟩ (.int .i64 (s.fail - 1))) r B cap l fp { s with fail := s.fail - 1 } := h.rehead hk ⟨rfl, rfl, rfl, rfl⟩ rfl (fun KA kn kc hb => by rw [heap_set hb]; rfl)
    by_cases hz : s.fail = 0
    · rw [decide_eq_true hz]
      have hlt : s.fail - 1 < 0 := by omega
      have HZ := Lib.hid hz; clear hz
      go_enter Try.func106, Try.ntmps106
      go_wp2
      go_ret
      exact ⟨rfl, hR, hk⟩
    · rw [decide_eq_false hz]
      have hlt : ¬ s.fail - 1 < 0 := by omega
      go_enter Try.func106, Try.ntmps106
      go_wp2
      go_ret
      exact ⟨rfl, hR, hk⟩

set_option maxHeartbeats 400000 in
theorem refDone_any {w : World} {r B cap : Nat} {l : List One} {fp : List Nat} {s : RS} (h : RefAt w r B cap l fp s) (h0 : s.till = -1 ∨ 0 < s.till) (h1 : s.till ≤ 9223372036854775807) (hr : s.refuses = false) (hw0 : 0 ≤ s.works) (hw : s.works < 9223372036854775807) :
    Calls Try.prog 108 #[.pointer (some ⟨r, 0, none⟩)] w (HdPost w r B cap l fp { s with works := s.works + 1, till := max (s.till - 1) (-1), refuses := max (s.till - 1) (-1) == 0 } (.returned (.tuple #[]))) := by
  obtain ⟨c0, c1, c3, c4, c5, c6, cf⟩ := h.cells
  clear c0 c1 c5
  have hk : Kept [r] w (w.setCell ⟨r, 4, none⟩ (.int .i64 (s.works + 1))) := Kept.setCell (by simp) _
  by_cases hp : 0 < s.till
  · rw [max_less (by omega)]
    have hk2 : Kept [r] w (((w.setCell ⟨r, 4, none⟩ (.int .i64 (s.works + 1))).setCell ⟨r, 3, none⟩ (.int .i64 (s.till - 1))).setCell ⟨r, 6, none⟩ (.bool (s.till - 1 == 0))) := (hk.trans (Kept.setCell (by simp) _)).trans (Kept.setCell (by simp) _)
    have hR : RefAt (((w.setCell ⟨r, 4, none⟩ (.int .i64 (s.works + 1))).setCell ⟨r, 3, none⟩ (.int .i64 (s.till - 1))).setCell ⟨r, 6, none⟩ (.bool (s.till - 1 == 0))) r B cap l fp { s with works := s.works + 1, till := s.till - 1, refuses := s.till - 1 == 0 } :=
      h.rehead hk2 ⟨rfl, rfl, rfl, rfl⟩ rfl (fun KA kn kc hb => by rw [heap_set (heap_set (heap_set hb _ _) _ _)]; rfl)
    go_enter Try.func108, Try.ntmps108
    go_wp2
    go_end0
    exact ⟨rfl, hR, hk2⟩
  · have e : s.till = -1 := by omega
    have hR : RefAt (w.setCell ⟨r, 4, none⟩ (.int .i64 (s.works + 1))) r B cap l fp { s with works := s.works + 1, till := max (s.till - 1) (-1), refuses := max (s.till - 1) (-1) == 0 } :=
      h.rehead hk ⟨rfl, rfl, rfl, rfl⟩ rfl (fun KA kn kc hb => by rw [heap_set hb, e, hr]; rfl)
    clear e
    go_enter Try.func108, Try.ntmps108
    go_wp2
    go_end0
    exact ⟨rfl, hR, hk⟩

set_option maxHeartbeats 400000 in
theorem refBoot_any {w : World} {r B cap : Nat} {l : List One} {fp : List Nat} {s : RS} (h : RefAt w r B cap l fp s) :
    Calls Try.prog 81 #[.pointer (some ⟨r, 0, none⟩)] w (HdPost w r B cap l fp { s with dead := false } (.returned (.int .i64 0))) := by
  obtain ⟨c0, c1, c3, c4, c5, c6, cf⟩ := h.cells
  clear c0 c1 c3 c4 c6
  have hk : Kept [r] w (w.setCell ⟨r, 5, none⟩ (.bool false)) := Kept.setCell (by simp) _
  go_enter Try.func81, Try.ntmps81
  go_wp2
  go_ret
  exact ⟨rfl, h.rehead hk ⟨rfl, rfl, rfl, rfl⟩ rfl (fun KA kn kc hb => by rw [heap_set hb]; rfl), hk⟩

set_option maxHeartbeats 400000 in
theorem refRefuse_any {w : World} {r B cap : Nat} {l : List One} {fp : List Nat} {s : RS} (h : RefAt w r B cap l fp s) (n : Int) (hd : s.dead = false) :
    Calls Try.prog 80 #[.pointer (some ⟨r, 0, none⟩), .int .i64 n] w (HdPost w r B cap l fp { s with till := max n (-1), refuses := n == 0 } (.returned (.int .i64 0))) := by
  obtain ⟨c0, c1, c3, c4, c5, c6, cf⟩ := h.cells
  rw [hd] at c5
  clear c0 c1 c4
  have hk : Kept [r] w ((w.setCell ⟨r, 3, none⟩ (.int .i64 (max n (-1)))).setCell ⟨r, 6, none⟩ (.bool (n == 0))) := (Kept.setCell (by simp) _).trans (Kept.setCell (by simp) _)
  have hR : RefAt ((w.setCell ⟨r, 3, none⟩ (.int .i64 (max n (-1)))).setCell ⟨r, 6, none⟩ (.bool (n == 0))) r B cap l fp { s with till := max n (-1), refuses := n == 0 } :=
    h.rehead hk ⟨rfl, rfl, rfl, rfl⟩ rfl (fun KA kn kc hb => by rw [heap_set (heap_set hb _ _)]; rfl)
  have HD := Lib.hid hd; clear hd
  go_enter Try.func80, Try.ntmps80
  go_wp2
  all_goals
    go_ret
    exact ⟨rfl, hR, hk⟩

/-! Many steps -/
structure Rn (w0 : World) (r B cap : Nat) (l : List One) (fp0 fp : List Nat) (s : RS) (wr : World) : Prop where
  at_ : RefAt wr r B cap l fp s
  kept : Kept fp0 w0 wr
  new : ∀ j ∈ fp, j ∈ fp0 ∨ w0.heap.size ≤ j

theorem Rn.start {w : World} {r B cap : Nat} {l : List One} {fp : List Nat} {s : RS} (h : RefAt w r B cap l fp s) : Rn w r B cap l fp fp s w := ⟨h, Kept.refl _ _, fun _ h => .inl h⟩
theorem Rn.post {w0 wr : World} {r B cap : Nat} {l : List One} {fp0 fp : List Nat} {s : RS} (h : Rn w0 r B cap l fp0 fp s wr) (v : Value) : RfPost w0 r fp0 s v (.returned v) wr := ⟨rfl, B, cap, l, fp, h.at_, h.kept, h.new⟩
theorem Rn.kept' {w0 wr w2 : World} {r B cap : Nat} {l : List One} {fp0 fp : List Nat} {s : RS} (h : Rn w0 r B cap l fp0 fp s wr) (hk : Kept [] wr w2) : Rn w0 r B cap l fp0 fp s w2 :=
  ⟨h.at_.kept hk (by simp), h.kept.trans' hk (by simp), h.new⟩
theorem Rn.head {w0 wr w2 : World} {r B cap : Nat} {l : List One} {fp0 fp : List Nat} {s s' : RS} (h : Rn w0 r B cap l fp0 fp s wr) (hR : RefAt w2 r B cap l fp s') (hk : Kept [r] wr w2) : Rn w0 r B cap l fp0 fp s' w2 :=
  ⟨hR, h.kept.trans' hk (fun i hi => by simp at hi; subst hi; exact h.new _ h.at_.rin), h.new⟩
theorem Rn.full {w0 wr w2 : World} {r B B' cap cap' : Nat} {l l' : List One} {fp0 fp fp' : List Nat} {s s' : RS} (h : Rn w0 r B cap l fp0 fp s wr) (hR : RefAt w2 r B' cap' l' fp' s') (hk : Kept fp wr w2) (hn : ∀ j ∈ fp', j ∈ fp ∨ wr.heap.size ≤ j) : Rn w0 r B' cap' l' fp0 fp' s' w2 :=
  ⟨hR, h.kept.trans' hk (fun i hi => h.new _ hi), fun j hj => by
    rcases hn j hj with h1 | h1
    · exact h.new j h1
    · exact .inr (Nat.le_trans h.kept.size h1)⟩

def blksOf (A : Option Addr) : List Nat := (A.map (·.block)).toList
theorem mem_blksOf {A : Option Addr} {p : Addr} (h : A = some p) : p.block ∈ blksOf A := by subst h; simp [blksOf]
theorem of_blksOf {A : Option Addr} {j : Nat} (h : j ∈ blksOf A) : ∃ p, A = some p ∧ p.block = j := by
  cases A with
  | none => simp [blksOf] at h
  | some p => simp [blksOf] at h; exact ⟨p, rfl, h.symm⟩

theorem SlAt.lt {w : World} {A : Option Addr} {n c : Nat} {xs : List Value} (h : SlAt w A n c xs) (hn : 0 < n) {p : Addr} (hp : A = some p) : p.block < w.heap.size := by
  obtain ⟨b, o, e, hb, _⟩ := h.cells hn
  rw [hp] at e; cases e; exact hb

theorem Rn.with_new {w0 wr : World} {r B cap : Nat} {l : List One} {fp0 fp : List Nat} {s : RS} {A : Option Addr} {c : Nat} {b : Blk} (h : Rn w0 r B cap l fp0 fp s wr) (hs : SlAt wr A 128 c (u8vs b)) (hA : ∀ p, A = some p → w0.heap.size ≤ p.block ∧ p.block ∉ fp) :
    Rn w0 r B cap l fp0 (blksOf A ++ fp) s wr ∧ ∀ p, A = some p → p.block ∈ blksOf A ++ fp ∧ p.block ≠ r ∧ p.block ≠ B := by
  refine ⟨⟨h.at_.more (fun j hj => List.mem_append_right _ hj) (fun j hj => ?_), h.kept, fun j hj => ?_⟩, fun p hp => ⟨List.mem_append_left _ (mem_blksOf hp), fun e => (hA p hp).2 (e ▸ h.at_.rin), fun e => (hA p hp).2 (e ▸ h.at_.bin)⟩⟩
  · rcases List.mem_append.1 hj with h1 | h1
    · obtain ⟨p, hp, rfl⟩ := of_blksOf h1; exact hs.lt (by omega) hp
    · exact h.at_.lt j h1
  · rcases List.mem_append.1 hj with h1 | h1
    · obtain ⟨p, hp, rfl⟩ := of_blksOf h1; exact .inr (hA p hp).1
    · exact h.new j h1

theorem Rn.row {w0 wr w2 : World} {r B cap : Nat} {l l' : List One} {fp0 fp : List Nat} {s s' : RS} (h : Rn w0 r B cap l fp0 fp s wr) (hR : RefAt w2 r B cap l' fp s') (hk : Kept [B] wr w2) : Rn w0 r B cap l' fp0 fp s' w2 :=
  ⟨hR, h.kept.trans' hk (fun i hi => by simp at hi; subst hi; exact h.new _ h.at_.bin), h.new⟩

/-- now of sector i is stored. -/
theorem Rn.putNow {w0 wr : World} {r B cap : Nat} {l : List One} {fp0 fp : List Nat} {s : RS} {A : Option Addr} {c : Nat} {b : Blk} (h : Rn w0 r B cap l fp0 fp s wr) (hs : SlAt wr A 128 c (u8vs b)) (hA : ∀ p, A = some p → w0.heap.size ≤ p.block ∧ p.block ∉ fp) {i : Nat} {o : One} (hi : l[i]? = some o) :
    Rn w0 r B cap (l.set i { o with nA := A, nc := c }) fp0 (blksOf A ++ fp) { s with now := upd s.now i b } (wr.setCell ⟨B, i * 3, none⟩ (.slice A 128 c)) := by
  obtain ⟨h1, h2⟩ := h.with_new hs hA
  have ho := h1.at_.one i o hi
  refine h1.row (h1.at_.put hi (j := 0) (by omega) (fun k hk => ?_) ⟨rfl, rfl, rfl, rfl, rfl, rfl, rfl⟩ (fun k hk => ⟨upd_ne _ _ hk, rfl, rfl⟩) ?_) (Kept.setCell (by simp) _)
  · match k, hk with
    | 0, _ => rfl
    | 1, _ => rfl
    | 2, _ => rfl
  · exact ⟨by show SlAt wr A 128 c (u8vs (upd s.now i b i)); rw [upd_self]; exact hs, ho.sure, ho.wr, h2, ho.sb⟩

/-- sure of sector i is stored. -/
theorem Rn.putSure {w0 wr : World} {r B cap : Nat} {l : List One} {fp0 fp : List Nat} {s : RS} {A : Option Addr} {c : Nat} {b : Blk} (h : Rn w0 r B cap l fp0 fp s wr) (hs : SlAt wr A 128 c (u8vs b)) (hA : ∀ p, A = some p → w0.heap.size ≤ p.block ∧ p.block ∉ fp) {i : Nat} {o : One} (hi : l[i]? = some o) :
    Rn w0 r B cap (l.set i { o with sA := A, sc := c }) fp0 (blksOf A ++ fp) { s with sure := upd s.sure i b } (wr.setCell ⟨B, i * 3 + 1, none⟩ (.slice A 128 c)) := by
  obtain ⟨h1, h2⟩ := h.with_new hs hA
  have ho := h1.at_.one i o hi
  refine h1.row (h1.at_.put hi (j := 1) (by omega) (fun k hk => ?_) ⟨rfl, rfl, rfl, rfl, rfl, rfl, rfl⟩ (fun k hk => ⟨rfl, upd_ne _ _ hk, rfl⟩) ?_) (Kept.setCell (by simp) _)
  · match k, hk with
    | 0, _ => rfl
    | 1, _ => rfl
    | 2, _ => rfl
  · exact ⟨ho.now, by show SlAt wr A 128 c (u8vs (upd s.sure i b i)); rw [upd_self]; exact hs, ho.wr, ho.nb, h2⟩

/-- wrote of sector i is stored. -/
theorem Rn.putWrote {w0 wr : World} {r B cap : Nat} {l : List One} {fp0 fp : List Nat} {s : RS} (h : Rn w0 r B cap l fp0 fp s wr) (v : Bool) {i : Nat} {o : One} (hi : l[i]? = some o) :
    Rn w0 r B cap (l.set i { o with wrote := v }) fp0 fp { s with wrote := upd s.wrote i v } (wr.setCell ⟨B, i * 3 + 2, none⟩ (.bool v)) := by
  have ho := h.at_.one i o hi
  refine h.row (h.at_.put hi (j := 2) (by omega) (fun k hk => ?_) ⟨rfl, rfl, rfl, rfl, rfl, rfl, rfl⟩ (fun k hk => ⟨rfl, rfl, upd_ne _ _ hk⟩) ?_) (Kept.setCell (by simp) _)
  · match k, hk with
    | 0, _ => rfl
    | 1, _ => rfl
    | 2, _ => rfl
  · exact ⟨ho.now, ho.sure, (upd_self _ _ _).symm, ho.nb, ho.sb⟩
end Go.Proofs.Ytbnflbkaogpnbaa
