/- Read and Fail of a device. -/
import Derived.Test.YtbnflbkaogpnbaaD2
namespace Go.Proofs.Ytbnflbkaogpnbaa
open Go.RowKit

/-- The cells of a sector. -/
theorem flat_at : ∀ (s : List Blk), (∀ b ∈ s, b.length = 128) → ∀ (i j : Nat) (b : Blk), s[i]? = some b → j < 128 → (flat s)[i * 128 + j]? = (u8vs b)[j]? := by
  intro s
  induction s with
  | nil => intro _ i j b h; simp at h
  | cons c r ih =>
    intro hs i j b hb hj
    have hc : (u8vs c).length = 128 := by simp [u8vs, hs c List.mem_cons_self]
    simp only [flat, List.flatMap_cons, List.getElem?_toArray]
    cases i with
    | zero =>
      simp only [List.getElem?_cons_zero, Option.some.injEq] at hb
      subst hb
      rw [List.getElem?_append_left (by omega)]
      congr 1
      omega
    | succ i =>
      rw [List.getElem?_append_right (by omega)]
      have := ih (fun b hb => hs b (List.mem_cons_of_mem _ hb)) i j b (by simpa using hb) hj
      simp only [flat, List.getElem?_toArray] at this
      rw [← this]
      congr 1
      omega

/-- What Read does. -/
def ReadPost (w : World) (d : Dev) (i : Int) (e : Ending) (w' : World) : Prop :=
  (d.at_ i ≠ 0 ∧ e = .returned (.tuple #[.slice none 0 0, .int .i64 (d.at_ i)]) ∧ w' = w) ∨
  (d.at_ i = 0 ∧ ∃ v b, e = .returned (.tuple #[v, .int .i64 0]) ∧ d.secs[i.toNat]? = some b ∧ w'.ownsRow w.heap.size 5 1 v 128 (u8vs b) ∧ Below w.heap.size w w')

theorem Dev.at_zero {d : Dev} {i : Int} (h : d.at_ i = 0) : d.dead = false ∧ 0 ≤ i ∧ i < d.secs.length := by
  unfold Dev.at_ at h
  split at h
  · simp at h
  · split at h
    · simp at h
    · rename_i h1 h2
      exact ⟨by simpa using h1, by omega, by omega⟩

set_option maxHeartbeats 400000 in
theorem read_any {w : World} {a S M : Nat} {K : Option Nat} {d : Dev} (hD : DevAt w a S M K d) (i : Int) :
    Calls Try.prog 30 #[.pointer (some ⟨a, 0, none⟩), .int .i64 i] w (ReadPost w d i) := by
  obtain ⟨c0, c1, c2, c4, c5, c6, cf⟩ := hD.cells
  clear c1 c2 c4 c5 c6 cf
  have hat := at_any hD i
  by_cases hz : d.at_ i = 0
  · obtain ⟨h1, h2, h3⟩ := Dev.at_zero hz
    obtain ⟨k, rfl⟩ := Int.eq_ofNat_of_zero_le h2
    have hk : k < d.secs.length := by omega
    have hm := hD.wf.many
    obtain ⟨b, hb⟩ : ∃ b, d.secs[k]? = some b := ⟨_, List.getElem?_eq_getElem hk⟩
    have hbl : b.length = 128 := hD.wf.size b (List.mem_of_getElem? hb)
    have hs : SlAt w (some ⟨S, k * 128, none⟩) 128 128 (u8vs b) := ⟨by simp [u8vs, hbl], Nat.le_refl _, by unfold maxLen; omega, fun _ => ⟨S, k * 128, rfl, World.lt_of_heap hD.secs, fun j hj => by
      rw [blk_cell hD.secs]; exact flat_at _ hD.wf.size k j b hb hj⟩⟩
    have HZ := Lib.hid hz
    rw [hz] at hat
    have HB := Lib.hid hb
    clear hz h1 hb hbl
    go_enter Try.func30, Try.ntmps30
    go_wp2_with (first | (go_at_call 69; refine hat.mono ?_; rintro e w' ⟨rfl, rfl⟩) | (go_at_call 74; refine (bytesClone_any _ _ _ _ _ hs (by omega)).mono ?_; rintro e w' ⟨A', c', rfl, hown, hbel⟩))
    go_ret2
    exact .inr ⟨HZ.out, _, b, rfl, HB.out, hown, hbel⟩
  · have hb : (d.at_ i != 0) = true := by simpa using hz
    go_enter Try.func30, Try.ntmps30
    go_wp2_with (go_at_call 69; refine hat.mono ?_; rintro e w' ⟨rfl, rfl⟩)
    go_ret2
    exact .inl ⟨hz, rfl, rfl⟩

theorem ownsRow_base {w : World} {base : Nat} {t : TypeId} {size n : Nat} {v : Value} {xs : List Value} (h : w.ownsRow base t size v n xs) : w.ownsRow 0 t size v n xs := by
  obtain ⟨h1, h2⟩ := h
  refine ⟨h1, ?_⟩
  rcases h2 with h2 | ⟨g, cap, cur, hv, _, r⟩
  · exact .inl h2
  · exact .inr ⟨g, cap, cur, hv, Nat.zero_le _, r⟩

/-- The head is written anew, what is to be kept among it. -/
theorem DevAt.remake {w w' : World} {a S M : Nat} {K : Option Nat} {d d' : Dev} (h : DevAt w a S M K d) (hk : Kept [a] w w') (hwf : d'.Wf) (hs : d'.secs = d.secs) (hsu : d'.sure = d.sure) {kv : Value}
    (hh : w'.heap[a]? = some (.cells #[.slice (some ⟨S, 0, none⟩) d.secs.length d.secs.length, .map (some M), .int .i64 d'.fail, kv, .int .i64 d'.till, .int .i64 d'.works, .bool d'.dead] 61 (0, 0)))
    (hr : w'.ownsRow 0 3 1 kv d'.keep.length (d'.keep.map i64v)) : DevAt w' a S M kv.ownBlock d' := by
  obtain ⟨n1, n2, n3, n4, n5, n6⟩ := h.ne
  obtain ⟨l1, l2, l3, l4⟩ := h.lt
  obtain ⟨es, clk, h3, h4⟩ := h.sure
  exact ⟨hwf, ⟨kv, by rw [hs]; exact hh, rfl, hr⟩, by rw [hs]; exact (hk.block S l2 (by simpa using fun e => n1 e.symm)).trans h.secs, ⟨es, clk, (hk.block M l3 (by simpa using fun e => n2 e.symm)).trans h3, by rw [hsu]; exact h4⟩⟩

theorem grownBy_setCell_at (w : World) (a i : Nat) (v : Value) : w.grownBy (w.setCell ⟨a, i, none⟩ v) (some a) :=
  ⟨rfl, rfl, rfl, by simp [World.setCell], fun k _ hk => Below.heap_setCell _ _ _ _ (fun e => hk (by rw [e]))⟩

theorem fail_shut {w w1 : World} {a S M : Nat} {K : Option Nat} {d : Dev} (hD : DevAt w a S M K d) {n x : Int} {keep : List Int} (hx : x = max n (-1)) {A' : Option Addr} {m c' : Nat} (hm : m = keep.length)
    (hwf : ({ d with fail := max n (-1), keep := keep } : Dev).Wf) (hown : w1.ownsRow w.heap.size 3 1 (.slice A' m c') m (keep.map i64v)) (hbel : Below w.heap.size w w1) :
    DevPost w a S M K ({ d with fail := max n (-1), keep := keep }, 0) (.returned (.int .i64 0)) ((w1.setCell ⟨a, 2, none⟩ (.int .i64 x)).setCell ⟨a, 3, none⟩ (.slice A' m c')) := by
  subst hx hm
  have hal := hD.lt.1
  obtain ⟨kv, hh, _, _⟩ := hD.head
  have h1 := (hbel.block a hal).trans hh
  have h2 := heap_set (heap_set h1 2 (.int .i64 (max n (-1)))) 3 (.slice A' keep.length c')
  have hne : (Value.slice A' keep.length c').ownBlock ≠ some a := fun e => by
    have := (hown.lt _ e).1
    omega
  have hr := ((hown.kept (grownBy_setCell_at w1 a 2 (.int .i64 (max n (-1)))) (.inr hne)).kept (grownBy_setCell_at _ a 3 (.slice A' keep.length c')) (.inr hne))
  have hk : Kept [a] w ((w1.setCell ⟨a, 2, none⟩ (.int .i64 (max n (-1)))).setCell ⟨a, 3, none⟩ (.slice A' keep.length c')) :=
    ((Kept.of_below hbel).trans (Kept.setCell (by simp) _)).trans (Kept.setCell (by simp) _)
  refine ⟨rfl, _, hD.remake hk hwf rfl rfl (kv := .slice A' keep.length c') ?_ (ownsRow_base hr), hk.mono (fun i hi => .inl (by simp at hi; simp [hi])), fun k e => .inr (hown.lt k e).1⟩
  rw [h2]
  rfl

set_option maxHeartbeats 400000 in
theorem fail_any {w : World} {a S M : Nat} {K : Option Nat} {d : Dev} (hD : DevAt w a S M K d) (n : Int) (h0 : -9223372036854775808 ≤ n) (h1 : n ≤ 9223372036854775807)
    (A : Option Addr) (m c : Nat) (keep : List Int) (hx : SlAt w A m c (keep.map i64v)) (hn : m * 8 ≤ 140737488355328) (hk : ∀ n ∈ keep, -9223372036854775808 ≤ n ∧ n ≤ 9223372036854775807) :
    Calls Try.prog 34 #[.pointer (some ⟨a, 0, none⟩), .int .i64 n, .slice A m c] w (DevPost w a S M K (d.failAt n keep)) := by
  obtain ⟨c0, c1, c2, c4, c5, c6, cf⟩ := hD.cells
  obtain ⟨kv, hh, _, _⟩ := hD.head
  have c3 : w.cell? ⟨a, 3, none⟩ = some kv := blk_cell hh 3
  have hal := hD.lt.1
  have hw := wrong_any hD
  have hd : d.dead = true ∨ d.dead = false := by cases d.dead <;> simp
  clear c0 c1 c4 c5 c6
  rcases hd with hd | hd
  · have e : d.failAt n keep = (d, 100) := by simp [Dev.failAt, hd]
    rw [e]; rw [hd] at hw
    clear hd e c2 c3 cf hh
    go_enter Try.func34, Try.ntmps34
    go_wp2_with (go_at_call 65; refine hw.mono ?_; rintro e w' ⟨rfl, rfl⟩)
    go_ret
    exact DevPost.same hD
  · have e : d.failAt n keep = ({ d with fail := max n (-1), keep := keep }, 0) := by simp [Dev.failAt, hd]
    rw [e]; rw [hd] at hw
    have HD := Lib.hid hd; clear hd e
    have HH := Lib.hid hh; clear hh
    have hwf : ({ d with fail := max n (-1), keep := keep } : Dev).Wf := { hD.wf with fail0 := by simp only; omega, fail1 := by simp only; omega, keepIn := hk }
    go_enter Try.func34, Try.ntmps34
    go_wp2_with (first | (go_at_call 65; refine hw.mono ?_; rintro e w' ⟨rfl, rfl⟩) | (go_at_call 75; refine (intsClone_any _ _ _ _ _ hx hn).mono ?_; rintro e w1 ⟨A', c', rfl, hown, hbel⟩; have d2 := (hbel.cell (p := ⟨a, 2, none⟩) hal).trans c2; have d3 := (hbel.cell (p := ⟨a, 3, none⟩) hal).trans c3; have df := fun i => (hbel.frozen (p := ⟨a, i, none⟩) hal).trans (cf i)))
    all_goals
      go_ret
      exact fail_shut hD (by omega) (by have := hx.len; simpa using this.symm) hwf hown hbel
end Go.Proofs.Ytbnflbkaogpnbaa
