/- Texts in one: D3 K0 K1 W0 W1 W2. -/
import Derived.Test.YtbnflbkaogpnbaaGreatPAA
import Derived.Test.YtbnflbkaogpnbaaGreatL0
import Derived.Deep.MidRow
import Derived.StillTailTactics
namespace Go.Proofs.YtbnflbkaogpnbaaGreat
open Go.RowKit
/-- The cells of a sector. -/
theorem flat_at : ∀ (s : List Blk), (∀ b ∈ s, b.length = 128) → ∀ (i j : Nat) (b : Blk), s[i]? = some b → j < 128 → (flat s)[i * 128 + j]? = (u8vs b)[j]? := by
 intro s
 induction s with
 | nil => intro _ i j b h; simp at h
 | cons c r ih =>
  intro hs i j b hb hj
  have hc : (u8vs c).length = 128 := by simp [u8vs, hs c List.mem_cons_self]
  simp only [flat, List.flatMap_cons, List.getElem?_toArray]
  cases i with
  | zero =>
   simp only [List.getElem?_cons_zero, Option.some.injEq] at hb
   subst hb
   rw [List.getElem?_append_left (by omega)]
   congr 1
   omega
  | succ i =>
   rw [List.getElem?_append_right (by omega)]
   have := ih (fun b hb => hs b (List.mem_cons_of_mem _ hb)) i j b (by simpa using hb) hj
   simp only [flat, List.getElem?_toArray] at this
   rw [← this]
   congr 1
   omega
/-- What Read does. -/
def ReadPost (w : World) (d : Dev) (i : Int) (e : Ending) (w' : World) : Prop :=
 (d.at_ i ≠ 0 ∧ e = .returned (.tuple #[.slice none 0 0, .int .i64 (d.at_ i)]) ∧ w' = w) ∨
 (d.at_ i = 0 ∧ ∃ v b, e = .returned (.tuple #[v, .int .i64 0]) ∧ d.secs[i.toNat]? = some b ∧ w'.ownsRow w.heap.size 5 1 v 128 (u8vs b) ∧ Below w.heap.size w w')
theorem Dev.at_zero {d : Dev} {i : Int} (h : d.at_ i = 0) : d.dead = false ∧ 0 ≤ i ∧ i < d.secs.length := by
 unfold Dev.at_ at h
 split at h
 ·simp at h
 ·split at h
  ·simp at h
  ·rename_i h1 h2
   exact ⟨by simpa using h1, by omega, by omega⟩
set_option maxHeartbeats 400000 in
theorem read_any {w : World} {a S M : Nat} {K : Option Nat} {d : Dev} (hD : DevAt w a S M K d) (i : Int) :
  Calls Tryz.prog 27 #[.pointer (some ⟨a, 0, none⟩), .int .i64 i] w (ReadPost w d i) := by
 obtain ⟨c0, c1, c2, c4, c5, c6, cf⟩ := hD.cells
 clear c1 c2 c4 c5 c6 cf
 have hat := at_any hD i
 by_cases hz : d.at_ i = 0
 ·obtain ⟨h1, h2, h3⟩ := Dev.at_zero hz
  obtain ⟨k, rfl⟩ := Int.eq_ofNat_of_zero_le h2
  have hk : k < d.secs.length := by omega
  have hm := hD.wf.many
  obtain ⟨b, hb⟩ : ∃ b, d.secs[k]? = some b := ⟨_, List.getElem?_eq_getElem hk⟩
  have hbl : b.length = 128 := hD.wf.size b (List.mem_of_getElem? hb)
  have hs : SlAt w (some ⟨S, k * 128, none⟩) 128 128 (u8vs b) := ⟨by simp [u8vs, hbl], Nat.le_refl _, by unfold maxLen; omega, fun _ => ⟨S, k * 128, rfl, World.lt_of_heap hD.secs, fun j hj => by
   rw [blk_cell hD.secs]; exact flat_at _ hD.wf.size k j b hb hj⟩⟩
  have HZ := Lib.hid hz
  rw [hz] at hat
  have HB := Lib.hid hb
  clear hz h1 hb hbl
  go_enter Tryz.func27, Tryz.ntmps27
  go_wp2_with (first | (go_at_call 50; refine hat.mono ?_; rintro e w' ⟨rfl, rfl⟩) | (go_at_call 42; refine (bytesClone_any _ _ _ _ _ hs (by omega)).mono ?_; rintro e w' ⟨A', c', rfl, hown, hbel⟩))
  go_ret2
  exact .inr ⟨HZ.out, _, b, rfl, HB.out, hown, hbel⟩
 ·have hb : (d.at_ i != 0) = true := by simpa using hz
  go_enter Tryz.func27, Tryz.ntmps27
  go_wp2_with (go_at_call 50; refine hat.mono ?_; rintro e w' ⟨rfl, rfl⟩)
  go_ret2
  exact .inl ⟨hz, rfl, rfl⟩
theorem ownsRow_base {w : World} {base : Nat} {t : TypeId} {size n : Nat} {v : Value} {xs : List Value} (h : w.ownsRow base t size v n xs) : w.ownsRow 0 t size v n xs := by
 obtain ⟨h1, h2⟩ := h
 refine ⟨h1, ?_⟩
 rcases h2 with h2 | ⟨g, cap, cur, hv, _, r⟩
 ·exact .inl h2
 ·exact .inr ⟨g, cap, cur, hv, Nat.zero_le _, r⟩
/-- The head is written anew, what is to be kept among it. -/
theorem DevAt.remake {w w' : World} {a S M : Nat} {K : Option Nat} {d d' : Dev} (h : DevAt w a S M K d) (hk : Kept [a] w w') (hwf : d'.Wf) (hs : d'.secs = d.secs) (hsu : d'.sure = d.sure) {kv : Value}
  (hh : w'.heap[a]? = some (.cells #[.slice (some ⟨S, 0, none⟩) d.secs.length d.secs.length, .map (some M), .int .i64 d'.fail, kv, .int .i64 d'.till, .int .i64 d'.works, .bool d'.dead] 44 (0, 0)))
  (hr : w'.ownsRow 0 3 1 kv d'.keep.length (d'.keep.map i64v)) : DevAt w' a S M kv.ownBlock d' := by
 obtain ⟨n1, n2, n3, n4, n5, n6⟩ := h.ne
 obtain ⟨l1, l2, l3, l4⟩ := h.lt
 obtain ⟨es, clk, h3, h4⟩ := h.sure
 exact ⟨hwf, ⟨kv, by rw [hs]; exact hh, rfl, hr⟩, by rw [hs]; exact (hk.block S l2 (by simpa using fun e => n1 e.symm)).trans h.secs, ⟨es, clk, (hk.block M l3 (by simpa using fun e => n2 e.symm)).trans h3, by rw [hsu]; exact h4⟩⟩
theorem grownBy_setCell_at (w : World) (a i : Nat) (v : Value) : w.grownBy (w.setCell ⟨a, i, none⟩ v) (some a) :=
 ⟨rfl, rfl, rfl, by simp [World.setCell], fun k _ hk => Below.heap_setCell _ _ _ _ (fun e => hk (by rw [e]))⟩
theorem fail_shut {w w1 : World} {a S M : Nat} {K : Option Nat} {d : Dev} (hD : DevAt w a S M K d) {n x : Int} {keep : List Int} (hx : x = max n (-1)) {A' : Option Addr} {m c' : Nat} (hm : m = keep.length)
  (hwf : ({ d with fail := max n (-1), keep := keep } : Dev).Wf) (hown : w1.ownsRow w.heap.size 3 1 (.slice A' m c') m (keep.map i64v)) (hbel : Below w.heap.size w w1) :
  DevPost w a S M K ({ d with fail := max n (-1), keep := keep }, 0) (.returned (.int .i64 0)) ((w1.setCell ⟨a, 2, none⟩ (.int .i64 x)).setCell ⟨a, 3, none⟩ (.slice A' m c')) := by
 subst hx hm
 have hal := hD.lt.1
 obtain ⟨kv, hh, _, _⟩ := hD.head
 have h1 := (hbel.block a hal).trans hh
 have h2 := heap_set (heap_set h1 2 (.int .i64 (max n (-1)))) 3 (.slice A' keep.length c')
 have hne : (Value.slice A' keep.length c').ownBlock ≠ some a := fun e => by
  have := (hown.lt _ e).1
  omega
 have hr := ((hown.kept (grownBy_setCell_at w1 a 2 (.int .i64 (max n (-1)))) (.inr hne)).kept (grownBy_setCell_at _ a 3 (.slice A' keep.length c')) (.inr hne))
 have hk : Kept [a] w ((w1.setCell ⟨a, 2, none⟩ (.int .i64 (max n (-1)))).setCell ⟨a, 3, none⟩ (.slice A' keep.length c')) :=
  ((Kept.of_below hbel).trans (Kept.setCell (by simp) _)).trans (Kept.setCell (by simp) _)
 refine ⟨rfl, _, hD.remake hk hwf rfl rfl (kv := .slice A' keep.length c') ?_ (ownsRow_base hr), hk.mono (fun i hi => .inl (by simp at hi; simp [hi])), fun k e => .inr (hown.lt k e).1⟩
 rw [h2]
 rfl
set_option maxHeartbeats 400000 in
theorem fail_any {w : World} {a S M : Nat} {K : Option Nat} {d : Dev} (hD : DevAt w a S M K d) (n : Int) (h0 : -9223372036854775808 ≤ n) (h1 : n ≤ 9223372036854775807)
  (A : Option Addr) (m c : Nat) (keep : List Int) (hx : SlAt w A m c (keep.map i64v)) (hn : m * 8 ≤ 140737488355328) (hk : ∀ n ∈ keep, -9223372036854775808 ≤ n ∧ n ≤ 9223372036854775807) :
  Calls Tryz.prog 66 #[.pointer (some ⟨a, 0, none⟩), .int .i64 n, .slice A m c] w (DevPost w a S M K (d.failAt n keep)) := by
 obtain ⟨c0, c1, c2, c4, c5, c6, cf⟩ := hD.cells
 obtain ⟨kv, hh, _, _⟩ := hD.head
 have c3 : w.cell? ⟨a, 3, none⟩ = some kv := blk_cell hh 3
 have hal := hD.lt.1
 have hw := wrong_any hD
 have hd : d.dead = true ∨ d.dead = false := by cases d.dead <;> simp
 clear c0 c1 c4 c5 c6
 rcases hd with hd | hd
 ·have e : d.failAt n keep = (d, 100) := by simp [Dev.failAt, hd]
  rw [e]; rw [hd] at hw
  clear hd e c2 c3 cf hh
  go_enter Tryz.func66, Tryz.ntmps66
  go_wp2_with (go_at_call 25; refine hw.mono ?_; rintro e w' ⟨rfl, rfl⟩)
  go_ret
  exact DevPost.same hD
 ·have e : d.failAt n keep = ({ d with fail := max n (-1), keep := keep }, 0) := by simp [Dev.failAt, hd]
  rw [e]; rw [hd] at hw
  have HD := Lib.hid hd; clear hd e
  have HH := Lib.hid hh; clear hh
  have hwf : ({ d with fail := max n (-1), keep := keep } : Dev).Wf := { hD.wf with fail0 := by simp only; omega, fail1 := by simp only; omega, keepIn := hk }
  go_enter Tryz.func66, Tryz.ntmps66
  go_wp2_with (first | (go_at_call 25; refine hw.mono ?_; rintro e w' ⟨rfl, rfl⟩) | (go_at_call 99; refine (intsClone_any _ _ _ _ _ hx hn).mono ?_; rintro e w1 ⟨A', c', rfl, hown, hbel⟩; have d2 := (hbel.cell (p := ⟨a, 2, none⟩) hal).trans c2; have d3 := (hbel.cell (p := ⟨a, 3, none⟩) hal).trans c3; have df := fun i => (hbel.frozen (p := ⟨a, i, none⟩) hal).trans (cf i)))
  all_goals
   go_ret
   exact fail_shut hD (by omega) (by have := hx.len; simpa using this.symm) hwf hown hbel
end Go.Proofs.YtbnflbkaogpnbaaGreat
namespace Go.Proofs.YtbnflbkaogpnbaaGreat
open Go.RowKit Go.Maps Go.Sort Go.Shelf
/-- How a value of the map is read: not at all. -/
def blindR (_ : Value) : Option (DataW Unit × List MemPlace) := some (.nil, [])
theorem sorts (m : Nat) : AnyZI.SortsIn Tryz.prog Tryz.sorted48_ren Fence.wide m :=
  ⟨fun blk off cap ss W hH hblk hsz => callsIn_wide.2 (AnyM.slices_Sort_int Tryz.sort86 blk off cap ss W hH hblk hsz),
   fun p cap W => callsIn_wide.2 (AnyM.slices_Sort_int_none Tryz.sort86 p cap W)⟩
theorem keys_any (mb : Option Nat) (W : World) : Calls Tryz.prog 49 #[.map mb] W fun e w' => e = .returned (.func (.func 87) #[] #[.pointer (some ⟨W.heap.size, 0, none⟩)]) ∧ w' = W.alloc (.cells #[.map mb] 41) :=
 callsIn_wide.1 (AnyZI.keys_in Tryz.keys49 Fence.wide 5 trivial rfl mb W)
set_option maxHeartbeats 1000000 in
theorem sorted_any (b nn : Nat) (D0 : DataW Unit) (w : World) (hown : w.ownsMap Tryz.prog 3 blindR b nn D0) (hmax : Maps.size D0 ≤ maxLen) (hbytes : Maps.size D0 * 8 ≤ 140737488355328) :
  Calls Tryz.prog 48 #[.func (.func 87) #[] #[.pointer (some ⟨w.heap.size, 0, none⟩)]] (w.alloc (.cells #[.map (some b)] 41)) fun e w' => ∃ (v : Value) (ss : List Int), e = .returned v ∧ ss.Perm (intKeys D0) ∧
   w'.ownsRow (w.alloc (.cells #[.map (some b)] 41)).heap.size 3 1 v ss.length ((ss.mergeSort (fun x y => decide (x ≤ y))).map encZ) ∧ (v = .slice none 0 0 ↔ ss = []) ∧ Below (w.alloc (.cells #[.map (some b)] 41)).heap.size (w.alloc (.cells #[.map (some b)] 41)) w' := by
 have hbl := hown.lt
 have hseq : SeqGives Fence.wide 2 Tryz.prog 87 #[.pointer (some ⟨w.heap.size, 0, none⟩)] encZ (fun ss => ss.Perm (intKeys D0)) (Maps.size D0) (w.alloc (.cells #[.map (some b)] 41)) :=
  AnyZI.keys_gives (ρ := Tryz.keys49_ren) { Tryz.keys49 with } Fence.wide _ trivial rfl (by omega) w.heap.size b nn D0 _ (by simp) (by simp) (by
   obtain ⟨es, clock, hb, Ft, hs, hD⟩ := hown
   exact ⟨es, clock, (Below.heap_alloc _ _ b hbl).trans hb, Ft, hs, hD⟩)
 exact callsIn_wide.1 (AnyZI.sorted_in Tryz.sorted48 Fence.wide 5 trivial trivial trivial trivial rfl (by omega) (sorts _) (enters_of Tryz.func86 (by kernel_rfl) rfl) 87 #[.pointer (some ⟨w.heap.size, 0, none⟩)] trivial (enters_of Tryz.func87 (by kernel_rfl) rfl) _ _ hmax hbytes _ hseq)
theorem mergeSort_cast (l : List Nat) (ss : List Int) (h : ss.Perm (l.map fun i : Nat => (i : Int))) : ss.mergeSort (fun x y => decide (x ≤ y)) = (l.mergeSort (· ≤ ·)).map fun i : Nat => (i : Int) := by
 have tr : ∀ a b c : Int, decide (a ≤ b) = true → decide (b ≤ c) = true → decide (a ≤ c) = true := fun a b c h1 h2 => by simp only [decide_eq_true_eq] at *; exact Int.le_trans h1 h2
 have to : ∀ a b : Int, (decide (a ≤ b) || decide (b ≤ a)) = true := fun a b => by simp only [Bool.or_eq_true, decide_eq_true_eq]; exact Int.le_total a b
 have trn : ∀ a b c : Nat, decide (a ≤ b) = true → decide (b ≤ c) = true → decide (a ≤ c) = true := fun a b c h1 h2 => by simp only [decide_eq_true_eq] at *; exact Nat.le_trans h1 h2
 have ton : ∀ a b : Nat, (decide (a ≤ b) || decide (b ≤ a)) = true := fun a b => by simp only [Bool.or_eq_true, decide_eq_true_eq]; exact Nat.le_total a b
 refine List.Perm.eq_of_pairwise (le := fun a b : Int => decide (a ≤ b) = true) (fun a b _ _ h1 h2 => ?_) (List.pairwise_mergeSort tr to ss) ?_ ?_
 ·simp only [decide_eq_true_eq] at h1 h2
  exact Int.le_antisymm h1 h2
 ·have hp := List.pairwise_mergeSort trn ton l
  exact List.pairwise_map.2 (hp.imp fun {a b} hab => by simp only [decide_eq_true_eq] at hab ⊢; omega)
 ·exact ((List.mergeSort_perm ss _).trans h).trans ((List.mergeSort_perm l _).symm.map _)
theorem key_of (i : Nat) (hi : i < 8193) : keyOf Tryz.prog 3 (i64v i) = some (.int .i64 i) :=
 keyOf_int_mk Tryz.underlying3 (WalkArith.wf_i64 (by omega))
theorem rd_of {x : MapEntry} {i : Nat} (hi : i < 8193) (hx : x.key = i64v i) : WideElems.rd Tryz.prog 3 blindR x = some (.int .i64 i, .nil) := by
 unfold WideElems.rd
 rw [hx, key_of i hi]
 rfl
theorem nodup_len : ∀ (n : Nat) (l : List Nat), l.Nodup → (∀ i ∈ l, i < n) → l.length ≤ n := by
 intro n
 induction n with
 | zero =>
  intro l _ h
  cases l with
  | nil => simp
  | cons a r => exact absurd (h a List.mem_cons_self) (by omega)
 | succ n ih =>
  intro l hn h
  have h1 := ih (l.erase n) (hn.erase n) (fun i hi => by
   have h2 := (hn.mem_erase_iff).1 hi
   have := h i h2.2
   have := h2.1
   omega)
  have h3 := List.length_erase_le (a := n) (l := l)
  have h4 := List.le_length_erase (a := n) (l := l)
  omega
/-- The map of a device, as the library's contracts take it. -/
theorem DevAt.owns {w : World} {a S M : Nat} {K : Option Nat} {d : Dev} (h : DevAt w a S M K d) :
  ∃ D0 : DataW Unit, w.ownsMap Tryz.prog 3 blindR M 8192 D0 ∧ Maps.size D0 ≤ 8192 ∧ (intKeys D0).Perm ((d.sure.map (·.1)).map fun i : Nat => (i : Int)) := by
 obtain ⟨es, clk, hm, hs, hst⟩ := h.sure
 have hlen : es.size = d.sure.length := by
  have := congrArg List.length hs
  simpa [sureOf] using this
 have hkey : ∀ x ∈ es.toList, ∃ i : Nat, i < 8193 ∧ x.key = i64v i := by
  intro x hx
  have hx2 : (x.key, x.val) ∈ sureOf es := List.mem_map.2 ⟨x, hx, rfl⟩
  rw [hs, List.mem_map] at hx2
  obtain ⟨p, hp, e⟩ := hx2
  simp only [Prod.mk.injEq] at e
  have := h.wf.keyIn p hp
  have := h.wf.many
  exact ⟨p.1, by omega, e.1.symm⟩
 have hle : es.size ≤ 8192 := by
  have h1 := h.wf.nodup
  have h2 : ∀ i ∈ d.sure.map (·.1), i < 8192 := by
   intro i hi
   obtain ⟨p, hp, rfl⟩ := List.mem_map.1 hi
   have := h.wf.keyIn p hp
   have := h.wf.many
   omega
  have := nodup_len _ _ h1 h2
  simp only [List.length_map] at this
  omega
 refine ⟨_, ⟨es, clk, hm, ⟨by unfold maxLen; omega, hst, ?_⟩, hle, rfl⟩, ?_, ?_⟩
 ·intro x hx
  obtain ⟨i, hi, e⟩ := hkey x hx
  exact ⟨_, rd_of hi e⟩
 ·show (List.foldr DataW.insert [] _).length ≤ 8192
  rw [length_sorted]
  simpa using hle
 ·show ((List.foldr DataW.insert [] _).map fun p => Go.intOf p.1).Perm _
  refine ((WideShapes.sorted_perm _).map _).trans ?_
  have : (es.toList.map (WideElems.rg Tryz.prog 3 blindR)).map (fun p => Go.intOf p.1) = (d.sure.map (·.1)).map fun i : Nat => (i : Int) := by
   have e1 : (es.toList.map (WideElems.rg Tryz.prog 3 blindR)).map (fun p => Go.intOf p.1) = (sureOf es).map fun p => RowKit.intOf p.1 := by
    unfold sureOf
    rw [List.map_map, List.map_map]
    refine List.map_congr_left fun x hx => ?_
    obtain ⟨i, hi, e⟩ := hkey x hx
    simp only [Function.comp, WideElems.rg, rd_of hi e, Option.getD_some, e]
    rfl
   rw [e1, hs, List.map_map, List.map_map]
   rfl
  rw [this]
/-- What Sorted(Keys) of a device's map does, from the world behind Keys. -/
def KeysPost (W : World) (l : List Nat) (e : Ending) (w' : World) : Prop :=
 ∃ A c, e = .returned (.slice A l.length c) ∧ w'.ownsRow W.heap.size 3 1 (.slice A l.length c) l.length (l.map fun i : Nat => i64v i) ∧ Below W.heap.size W w'
set_option maxHeartbeats 400000 in
theorem sortedKeys_any {w : World} {a S M : Nat} {K : Option Nat} {d : Dev} (hD : DevAt w a S M K d) :
  Calls Tryz.prog 48 #[.func (.func 87) #[] #[.pointer (some ⟨w.heap.size, 0, none⟩)]] (w.alloc (.cells #[.map (some M)] 41)) (KeysPost (w.alloc (.cells #[.map (some M)] 41)) d.keys) := by
 obtain ⟨D0, hown, hsz, hp⟩ := hD.owns
 refine (sorted_any M 8192 D0 w hown (by unfold maxLen; omega) (by omega)).mono ?_
 rintro e w' ⟨v, ss, rfl, hS, hrow, _, hb⟩
 have hms := mergeSort_cast (d.sure.map (·.1)) ss (hS.trans hp)
 have hl : ss.length = d.keys.length := by
  have h1 := (hS.trans hp).length_eq
  simpa [Dev.keys] using h1
 rw [hms, hl] at hrow
 have hrow' : w'.ownsRow (w.alloc (.cells #[.map (some M)] 41)).heap.size 3 1 v d.keys.length (d.keys.map fun i : Nat => i64v i) := by
  have e1 : (((d.sure.map (·.1)).mergeSort (· ≤ ·)).map fun i : Nat => (i : Int)).map encZ = d.keys.map fun i : Nat => i64v i := by
   rw [List.map_map]; rfl
  rw [e1] at hrow
  exact hrow
 obtain ⟨A, c, rfl, _⟩ := SlAt.of_own hrow'
 exact ⟨A, c, rfl, hrow', hb⟩
end Go.Proofs.YtbnflbkaogpnbaaGreat
namespace Go.Proofs.YtbnflbkaogpnbaaGreat
open Go.RowKit Go.Maps
open Go.ChangeMaps (setBlock heap_setBlock_same heap_setBlock_other)
def blkV (b : Blk) : Value := .agg (u8vs b).toArray
theorem zero_cells : Value.agg Tryz.zeroCells90 = blkV zeros := by kernel_rfl
theorem DevAt.keys_ok {w : World} {a S M : Nat} {K : Option Nat} {d : Dev} (h : DevAt w a S M K d) {es : Array MapEntry} {clk : Nat} (hm : w.heap[M]? = some (.map es clk)) :
  sureOf es = (d.sure.map fun p => (i64v p.1, blkV p.2)) ∧ MapKept.Stamped es clk ∧ ∀ x ∈ es.toList, ∃ l, keyOf Tryz.prog 3 x.key = some l := by
 obtain ⟨es', clk', hm', hs, hst⟩ := h.sure
 rw [hm] at hm'
 simp only [Option.some.injEq, Obj.map.injEq] at hm'
 obtain ⟨rfl, rfl⟩ := hm'
 refine ⟨hs, hst, ?_⟩
 intro x hx
 have hx2 : (x.key, x.val) ∈ sureOf es := List.mem_map.2 ⟨x, hx, rfl⟩
 rw [hs, List.mem_map] at hx2
 obtain ⟨p, hp, e⟩ := hx2
 simp only [Prod.mk.injEq] at e
 have := h.wf.keyIn p hp
 have := h.wf.many
 exact ⟨_, by rw [← e.1]; exact key_of p.1 (by omega)⟩
theorem look_of_mem {s : List (Nat × Blk)} {i : Nat} {b : Blk} (hn : (s.map (·.1)).Nodup) (h : (i, b) ∈ s) : Dev.look s i = some b := by
 obtain ⟨c, hc⟩ := Dev.look_of_key (s := s) (i := i) (List.mem_map.2 ⟨_, h, rfl⟩)
 rw [hc]
 have hm := Dev.look_mem hc
 induction s with
 | nil => cases h
 | cons p r ih =>
  simp only [List.map_cons, List.nodup_cons] at hn
  rcases List.mem_cons.1 h with h1 | h1 <;> rcases List.mem_cons.1 hm with h2 | h2
  ·rw [← h1] at h2; simp at h2; rw [h2]
  ·exact absurd (List.mem_map.2 ⟨_, h2, rfl⟩) (by rw [← h1] at hn; exact hn.1)
  ·exact absurd (List.mem_map.2 ⟨_, h1, rfl⟩) (by rw [← h2] at hn; exact hn.1)
  ·refine ih hn.2 h1 ?_ h2
   have : p.1 ≠ i := fun e => hn.1 (by rw [e]; exact List.mem_map.2 ⟨_, h1, rfl⟩)
   simpa [Dev.look, List.find?_cons, this] using hc
theorem DevAt.lookup {w : World} {a S M : Nat} {K : Option Nat} {d : Dev} (h : DevAt w a S M K d) (c : Bool) (k : Nat) (hk : k < 8193) :
  (Dev.look d.sure k = none ∧ (Instr.lookup 41 (.map (some M)) (.int .i64 k) c).run Tryz.prog w = .ok (if c then .tuple #[blkV zeros, .bool false] else blkV zeros) w) ∨
  ∃ b, Dev.look d.sure k = some b ∧ (Instr.lookup 41 (.map (some M)) (.int .i64 k) c).run Tryz.prog w = .ok (if c then .tuple #[blkV b, .bool true] else blkV b) w := by
 obtain ⟨es, clk, hm, _⟩ := h.sure
 obtain ⟨hs, hst, hks⟩ := h.keys_ok hm
 have KK : Keyed Tryz.prog 3 := int_keyed Tryz.underlying3
 have hkey := key_of k hk
 rcases KK.find w hkey es.toList hks with ⟨h1, h2⟩ | ⟨j, e0, h1, h2, h3⟩
 ·refine .inl ⟨?_, ?_⟩
  ·rw [Dev.look_none]
   intro hin
   obtain ⟨p, hp, hpk⟩ := List.mem_map.1 hin
   have : (i64v p.1, blkV p.2) ∈ sureOf es := by rw [hs]; exact List.mem_map.2 ⟨p, hp, rfl⟩
   obtain ⟨x, hx, e⟩ := List.mem_map.1 this
   simp only [Prod.mk.injEq] at e
   exact h2 x hx (by rw [e.1, hpk])
  ·have hc := fun em => KK.check w em hkey
   unfold i64v at h1 hc
   cases c <;> simp [Instr.lookup, run_underlying Tryz.underlying41, MapKept.run_getObj_map hm, hc, h1, zero_cells, Result.andThen]
 ·have hm0 : e0 ∈ es.toList := List.mem_of_getElem? h2
  have hx2 : (e0.key, e0.val) ∈ sureOf es := List.mem_map.2 ⟨e0, hm0, rfl⟩
  rw [hs, List.mem_map] at hx2
  obtain ⟨p, hp, e⟩ := hx2
  simp only [Prod.mk.injEq] at e
  have hpk : p.1 = k := by
   have := e.1.trans h3
   simp only [i64v, Value.int.injEq, true_and] at this
   omega
  refine .inr ⟨p.2, look_of_mem h.wf.nodup (by rw [← hpk]; exact hp), ?_⟩
  rw [← e.2] at h1
  have hc := fun em => KK.check w em hkey
  unfold i64v at h1 hc
  cases c <;> simp [Instr.lookup, run_underlying Tryz.underlying41, MapKept.run_getObj_map hm, hc, h1, Result.andThen]
theorem DevAt.update {w : World} {a S M : Nat} {K : Option Nat} {d : Dev} (h : DevAt w a S M K d) (k : Nat) (hk : k < 8193) (hn : Dev.look d.sure k = none) (b : Blk) :
  ∃ es clk, w.heap[M]? = some (.map es clk) ∧ (Instr.mapUpdate 41 (.map (some M)) (.int .i64 k) (blkV b)).run Tryz.prog w = .ok () (setBlock w M (.map (es.push { key := i64v k, val := blkV b, born := clk }) (clk + 1))) ∧
   sureOf (es.push { key := i64v k, val := blkV b, born := clk }) = ((d.sure ++ [(k, b)]).map fun p => (i64v p.1, blkV p.2)) ∧ MapKept.Stamped (es.push { key := i64v k, val := blkV b, born := clk }) (clk + 1) := by
 obtain ⟨es, clk, hm, _⟩ := h.sure
 obtain ⟨hs, hst, hks⟩ := h.keys_ok hm
 have KK : Keyed Tryz.prog 3 := int_keyed Tryz.underlying3
 have hkey := key_of k hk
 have hne : ∀ x ∈ es.toList, x.key ≠ i64v k := by
  intro x hx hxk
  have hx2 : (x.key, x.val) ∈ sureOf es := List.mem_map.2 ⟨x, hx, rfl⟩
  rw [hs, List.mem_map] at hx2
  obtain ⟨p, hp, e⟩ := hx2
  simp only [Prod.mk.injEq] at e
  have hpk : p.1 = k := by
   have := e.1.trans hxk
   simp only [i64v, Value.int.injEq, true_and] at this
   omega
  exact (Dev.look_none.1 hn) (List.mem_map.2 ⟨p, hp, hpk⟩)
 refine ⟨es, clk, hm, ?_, ?_, MapKept.stamped_push hst hne⟩
 ·rcases KK.find w hkey es.toList hks with ⟨h1, h2⟩ | ⟨j, e0, h1, h2, h3⟩
  ·have hc := KK.check w false hkey
   unfold i64v at h1 hc ⊢
   simp [Instr.mapUpdate, run_underlying Tryz.underlying41, MapKept.run_getObj_map hm, hc, h1, MapKept.run_setObj_map _ hm, Result.andThen, setBlock]
  ·exact absurd h3 (hne e0 (List.mem_of_getElem? h2))
 ·rw [List.map_append, ← hs]
  simp [sureOf]
theorem DevAt.clear {w : World} {a S M : Nat} {K : Option Nat} {d : Dev} (h : DevAt w a S M K d) :
  ∃ clk, (∃ es, w.heap[M]? = some (.map es clk)) ∧ ∀ ty, (Builtin.clear_ #[41] ty #[.map (some M)]).run Tryz.prog w = .ok (.tuple #[]) (setBlock w M (.map #[] clk)) := by
 obtain ⟨es, clk, hm, _⟩ := h.sure
 refine ⟨clk, ⟨es, hm⟩, fun ty => ?_⟩
 simp [Builtin.clear_, run_underlying Tryz.underlying41, MapKept.run_getObj_map hm, MapKept.run_setObj_map _ hm, Result.andThen, setBlock]
end Go.Proofs.YtbnflbkaogpnbaaGreat
namespace Go.Proofs.YtbnflbkaogpnbaaGreat
open Go.RowKit Go.Maps
open Go.ChangeMaps (setBlock heap_setBlock_same heap_setBlock_other)
theorem still_load_mid {P : Program} {ops : Array Oper} {rest : List Oper} {op : Oper} {a : Act} {w : World} {Q : Act → Prop} (hgd : op.guard = none) (ty : TypeId) (x : Operand) (ho : op.op = .load ty x)
  (b o : Nat) (hx : a.eval x = .pointer (some ⟨b, o, none⟩)) (cs : List Value) (d : TypeDesc) (hc : w.rangeAt b o cs)
  (hu : P.underlying ty = some d) (hd : d.isRow = true) (hi : (P.info? ty).map (·.size) = some cs.length)
  (h : wpStill P ops w Q rest (a.put op.dst (.agg cs.toArray))) : wpStill P ops w Q (op :: rest) a := by
 unfold wpStill
 rw [if_pos (by simp [Region.wanted, hgd])]
 unfold Oper.still execOp
 simp only [ho, hx, Instr.loadAt, Instr.sureAddr, Sem.run_bind, Sem.run_pure, Result.andThen_ok, run_loadVar_mid w b o ty cs d hc hu hd hi]
 exact ⟨rfl, h⟩
theorem size_block : (Tryz.prog.info? 90).map (·.size) = some 128 := by kernel_rfl
/-- A row of values is stored into a block from an offset on: the row behind it. -/
def spliced (cs : Array Value) (o : Nat) (vs : List Value) : Array Value := (cs.toList.take o ++ vs ++ cs.toList.drop (o + vs.length)).toArray
theorem splice_step {α : Type} (l : List α) (o : Nat) (v : α) (r : List α) (h : o + (r.length + 1) ≤ l.length) :
  (l.set o v).take (o + 1) ++ r ++ (l.set o v).drop (o + 1 + r.length) = l.take o ++ (v :: r) ++ l.drop (o + (r.length + 1)) := by
 have e1 : (l.set o v).take (o + 1) = l.take o ++ [v] := by
  rw [List.take_succ_eq_append_getElem (by simp; omega), List.take_set_of_le (by omega)]
  simp
 have e2 : (l.set o v).drop (o + 1 + r.length) = l.drop (o + (r.length + 1)) := by
  rw [List.drop_set_of_lt (by omega)]
  congr 1
  omega
 rw [e1, e2]
 simp
theorem setCells_heap (b : Nat) (t : TypeId) : ∀ (vs : List Value) (o : Nat) (w : World) (cs : Array Value), w.heap[b]? = some (.cells cs t (0, 0)) → o + vs.length ≤ cs.size →
  (w.setCells b o vs).heap[b]? = some (.cells (spliced cs o vs) t (0, 0)) := by
 intro vs
 induction vs with
 | nil => intro o w cs h _; simp [World.setCells, spliced, h]
 | cons v r ih =>
  intro o w cs h hl
  simp only [List.length_cons] at hl
  simp only [World.setCells]
  rw [ih (o + 1) _ _ (heap_set h o v) (by simp; omega)]
  simp only [spliced, Array.toList_setIfInBounds, List.length_cons]
  rw [splice_step cs.toList o v r (by simpa using hl)]
theorem setCells_kept (b : Nat) (vs : List Value) : ∀ (o : Nat) (w : World), Kept [b] w (w.setCells b o vs) := by
 induction vs with
 | nil => intro o w; exact Kept.refl _ _
 | cons v r ih => intro o w; exact (Kept.setCell (p := ⟨b, o, none⟩) (by simp) v).trans (ih (o + 1) _)
theorem flat_set (s : List Blk) (hs : ∀ b ∈ s, b.length = 128) (k : Nat) (hk : k < s.length) (b : Blk) (hb : b.length = 128) : spliced (flat s) (k * 128) (u8vs b) = flat (s.set k b) := by
 have hl : (u8vs b).length = 128 := by simp [u8vs, hb]
 have key : ∀ (s : List Blk) (k : Nat), (∀ b ∈ s, b.length = 128) → k < s.length → (s.flatMap u8vs).take (k * 128) ++ u8vs b ++ (s.flatMap u8vs).drop (k * 128 + 128) = (s.set k b).flatMap u8vs := by
  intro s
  induction s with
  | nil => intro k _ hk; simp at hk
  | cons c r ih =>
   intro k hs hk
   have hc : (u8vs c).length = 128 := by simp [u8vs, hs c List.mem_cons_self]
   cases k with
   | zero =>
    simp only [Nat.zero_mul, List.take_zero, List.nil_append, Nat.zero_add, List.flatMap_cons, List.set_cons_zero]
    have e2 : (u8vs c ++ r.flatMap u8vs).drop 128 = r.flatMap u8vs := by
     rw [← hc]; exact List.drop_left
    rw [e2]
   | succ k =>
    have h1 := ih k (fun b hb => hs b (List.mem_cons_of_mem _ hb)) (by simpa using hk)
    simp only [List.flatMap_cons, List.set_cons_succ]
    have e1 : (u8vs c ++ r.flatMap u8vs).take ((k + 1) * 128) = u8vs c ++ (r.flatMap u8vs).take (k * 128) := by
     have e0 : (k + 1) * 128 - 128 = k * 128 := by omega
     rw [List.take_append, List.take_of_length_le (by omega), hc, e0]
    have e2 : (u8vs c ++ r.flatMap u8vs).drop ((k + 1) * 128 + 128) = (r.flatMap u8vs).drop (k * 128 + 128) := by
     have e0 : (k + 1) * 128 + 128 - 128 = k * 128 + 128 := by omega
     rw [List.drop_append, List.drop_of_length_le (by omega), hc, List.nil_append, e0]
    rw [← h1, e1, e2]
    simp only [List.append_assoc]
 have h1 := key s k hs hk
 unfold spliced flat
 rw [hl, ← h1]
theorem flat_range {w : World} {S : Nat} {s : List Blk} (h : w.heap[S]? = some (.cells (flat s) 90 (0, 0))) (hs : ∀ b ∈ s, b.length = 128) {k : Nat} {b : Blk} (hb : s[k]? = some b) : w.rangeAt S (k * 128) (u8vs b) := by
 intro j v hj
 have hl : j < 128 := by
  have h1 := (List.getElem?_eq_some_iff.1 hj).1
  simpa [u8vs, hs b (List.mem_of_getElem? hb)] using h1
 rw [blk_cell h, flat_at s hs k j b hb hl, hj]
theorem flat_there {w : World} {S : Nat} {s : List Blk} (h : w.heap[S]? = some (.cells (flat s) 90 (0, 0))) (hs : ∀ b ∈ s, b.length = 128) {k : Nat} (hk : k < s.length) : w.there S (k * 128) 128 := by
 intro j hj
 refine ⟨?_, blk_frozen h _⟩
 rw [blk_cell h, Array.getElem?_eq_getElem (by rw [length_flat s hs]; omega)]
 rfl
theorem SlAt.range {w : World} {b o n c : Nat} {xs : List Value} (h : SlAt w (some ⟨b, o, none⟩) n c xs) : w.rangeAt b o xs := by
 intro j v hj
 have := h.news j v hj
 rwa [add_block] at this
end Go.Proofs.YtbnflbkaogpnbaaGreat
namespace Go.Proofs.YtbnflbkaogpnbaaGreat
open Go.RowKit Go.Maps
open Go.ChangeMaps (setBlock heap_setBlock_same heap_setBlock_other)
theorem Kept.drew (F : List Nat) (w : World) : Kept F w w.drew := ⟨rfl, rfl, rfl, Nat.le_refl _, fun _ _ _ => rfl⟩
theorem Kept.setBlock {F : List Nat} {w : World} {M : Nat} {es : Array MapEntry} {clk : Nat} (hm : w.heap[M]? = some (.map es clk)) (hF : M ∈ F) (o : Obj) : Kept F w (setBlock w M o) :=
 ⟨rfl, rfl, rfl, by simp [ChangeMaps.setBlock], fun k _ hn => heap_setBlock_other hm o (fun e => hn (e ▸ hF))⟩
theorem DevAt.drew {w : World} {a S M : Nat} {K : Option Nat} {d : Dev} (h : DevAt w a S M K d) : DevAt w.drew a S M K d := h.kept (Kept.drew [] w) (by simp) (by simp) (by simp) (by simp)
/-- A sector is written. -/
theorem DevAt.put {w : World} {a S M : Nat} {K : Option Nat} {d : Dev} (h : DevAt w a S M K d) {k : Nat} (hk : k < d.secs.length) {b : Blk} (hb : b.length = 128) :
  DevAt (w.setCells S (k * 128) (u8vs b)) a S M K { d with secs := d.secs.set k b } := by
 obtain ⟨n1, n2, n3, n4, n5, n6⟩ := h.ne
 obtain ⟨l1, l2, l3, l4⟩ := h.lt
 obtain ⟨kv, h1, h2, hr⟩ := h.head
 obtain ⟨es, clk, h3, h4, h5⟩ := h.sure
 have hk' := setCells_kept S (u8vs b) (k * 128) w
 have hl : (u8vs b).length = 128 := by simp [u8vs, hb]
 have hwf : ({ d with secs := d.secs.set k b } : Dev).Wf := { h.wf with
  one := by simpa using h.wf.one
  many := by simpa using h.wf.many
  size := fun c hc => by
   rcases List.mem_or_eq_of_mem_set hc with h1 | h1
   ·exact h.wf.size c h1
   ·rw [h1]; exact hb
  keyIn := by simpa using h.wf.keyIn }
 refine ⟨hwf, ⟨kv, ?_, h2, ?_⟩, ?_, ⟨es, clk, (hk'.block M l3 (by simpa using fun e => n3 e.symm)).trans h3, h4, h5⟩⟩
 ·rw [hk'.block a l1 (by simpa using n1), h1]
  simp
 ·obtain ⟨r1, r2⟩ := hr
  refine ⟨r1, ?_⟩
  rcases r2 with r2 | ⟨g, cap, cur, rfl, hb', hg, r3⟩
  ·exact .inl r2
  ·have hgK : K = some g := by rw [← h2]; rfl
   refine .inr ⟨g, cap, cur, rfl, hb', (hk'.block g (l4 g hgK) ?_).trans hg, r3⟩
   simp only [List.mem_singleton]
   rintro rfl
   exact n5 hgK
 ·rw [setCells_heap S 90 (u8vs b) (k * 128) w _ h.secs (by rw [length_flat _ h.wf.size, hl]; omega), flat_set _ h.wf.size k hk b hb]
/-- The map is written. -/
theorem DevAt.putSure {w : World} {a S M : Nat} {K : Option Nat} {d : Dev} (h : DevAt w a S M K d) {es : Array MapEntry} {clk : Nat} {s : List (Nat × Blk)} (hwf : ({ d with sure := s } : Dev).Wf)
  (hs : sureOf es = s.map fun p => (i64v p.1, blkV p.2)) (hst : MapKept.Stamped es clk) : DevAt (setBlock w M (.map es clk)) a S M K { d with sure := s } := by
 obtain ⟨n1, n2, n3, n4, n5, n6⟩ := h.ne
 obtain ⟨l1, l2, l3, l4⟩ := h.lt
 obtain ⟨kv, h1, h2, hr⟩ := h.head
 obtain ⟨es0, clk0, h3, h4, h5⟩ := h.sure
 have hk' := Kept.setBlock (F := [M]) h3 (by simp) (.map es clk)
 refine ⟨hwf, ⟨kv, ?_, h2, ?_⟩, ?_, ⟨es, clk, heap_setBlock_same h3 _, hs, hst⟩⟩
 ·rw [hk'.block a l1 (by simpa using n2), h1]
 ·obtain ⟨r1, r2⟩ := hr
  refine ⟨r1, ?_⟩
  rcases r2 with r2 | ⟨g, cap, cur, rfl, hb', hg, r3⟩
  ·exact .inl r2
  ·have hgK : K = some g := by rw [← h2]; rfl
   refine .inr ⟨g, cap, cur, rfl, hb', (hk'.block g (l4 g hgK) ?_).trans hg, r3⟩
   simp only [List.mem_singleton]
   rintro rfl
   exact n6 hgK
 ·rw [hk'.block S l2 (by simpa using n3)]
  exact h.secs
/-- What the midst of a Write does. -/
def MidPost (w : World) (a S M : Nat) (K : Option Nat) (d : Dev) (e : Ending) (w' : World) : Prop := e = .returned (.tuple #[]) ∧ DevAt w' a S M K d ∧ Kept [S, M] w w'
/-- The store of a sector that is told of and forgotten. -/
theorem forgets (w : World) (v : Blk) (hv : (u8vs v).length = 128) :
  ∃ W1, (storeCells ⟨w.heap.size, 0, none⟩ (u8vs v)).run Tryz.prog (w.alloc (.cells Tryz.zeroCells90 90)).drew = .ok () W1 ∧ Kept [] w W1 := by
 have hz : (u8vs zeros).toArray = Tryz.zeroCells90 := by
  have := zero_cells
  simp only [blkV, Value.agg.injEq] at this
  exact this.symm
 have hh : (w.alloc (.cells Tryz.zeroCells90 90)).drew.heap[w.heap.size]? = some (.cells Tryz.zeroCells90 90 (0, 0)) := heap_alloc_new w _
 have hsz : Tryz.zeroCells90.size = 128 := by rw [← hz]; simp [u8vs, length_zeros]
 have ht : ∀ j, j < (u8vs v).length → ((w.alloc (.cells Tryz.zeroCells90 90)).drew.cell? ⟨w.heap.size, 0 + 0 + j, none⟩).isSome = true := by
  intro j hj
  rw [blk_cell hh, Array.getElem?_eq_getElem (by omega)]
  rfl
 have := run_storeCells_cells (P := Tryz.prog) w.heap.size 0 (u8vs v) 0 (w.alloc (.cells Tryz.zeroCells90 90)).drew ht (fun j _ => blk_frozen hh _) (one_u8 v)
 refine ⟨_, this, ?_⟩
 exact ((Kept.alloc [] w _).trans (Kept.drew [] _)).trans' (setCells_kept w.heap.size (u8vs v) (0 + 0) _) (by simp)
theorem loads_of {w W : World} {a S M : Nat} {K : Option Nat} {d : Dev} (h : DevAt w a S M K d) (hW : W.heap = w.heap ∨ ∃ o, W.heap = (w.alloc o).heap) : DevAt W a S M K d := by
 obtain ⟨l1, l2, l3, l4⟩ := h.lt
 have hb : ∀ j, j < w.heap.size → W.heap[j]? = w.heap[j]? := by
  intro j hj
  rcases hW with e | ⟨o, e⟩
  ·rw [e]
  ·rw [e]; exact Below.heap_alloc w o j hj
 obtain ⟨kv, h1, h2, hr⟩ := h.head
 obtain ⟨es, clk, h3, h4⟩ := h.sure
 refine ⟨h.wf, ⟨kv, (hb a l1).trans h1, h2, ?_⟩, (hb S l2).trans h.secs, ⟨es, clk, (hb M l3).trans h3, h4⟩⟩
 obtain ⟨r1, r2⟩ := hr
 refine ⟨r1, ?_⟩
 rcases r2 with r2 | ⟨g, cap, cur, rfl, hb', hg, r3⟩
 ·exact .inl r2
 ·have hgK : K = some g := by rw [← h2]; rfl
  exact .inr ⟨g, cap, cur, rfl, hb', (hb g (l4 g hgK)).trans hg, r3⟩
end Go.Proofs.YtbnflbkaogpnbaaGreat
namespace Go.Proofs.YtbnflbkaogpnbaaGreat
open Go.RowKit Go.Maps
open Go.ChangeMaps (setBlock heap_setBlock_same heap_setBlock_other)
set_option maxHeartbeats 1000000 in
theorem array_at (W : World) (p : Addr) (c : Nat) : (Instr.arrayAt 90 (.slice (some p) 128 c)).run Tryz.prog W = .ok (.pointer (some p)) W := by
 simp [Instr.arrayAt, run_underlying Tryz.underlying90]
set_option maxHeartbeats 1000000 in
set_option maxRecDepth 100000 in
theorem write1_any {w : World} {a S M : Nat} {K : Option Nat} {d : Dev} (hD : DevAt w a S M K d) (x y z k : Nat) (b : Blk) (A : Option Addr) (c : Nat)
  (hx : w.cell? ⟨x, 0, none⟩ = some (.pointer (some ⟨a, 0, none⟩))) (hy : w.cell? ⟨y, 0, none⟩ = some (.int .i64 k)) (hz : w.cell? ⟨z, 0, none⟩ = some (.slice A 128 c))
  (hxs : x ∉ [S, M]) (hys : y ∉ [S, M]) (hzs : z ∉ [S, M]) (hAs : ∀ p, A = some p → p.block ∉ [S, M])
  (hs : SlAt w A 128 c (u8vs b)) (hk : k < d.secs.length) (hb : b.length = 128) :
  Calls Tryz.prog 79 #[.pointer (some ⟨x, 0, none⟩), .pointer (some ⟨y, 0, none⟩), .pointer (some ⟨z, 0, none⟩)] w (MidPost w a S M K (d.midst k b)) := by
 have hm := hD.wf.many
 have c1 := hD.cells.2.1
 have hxl := block_lt_of_cell hx; have hyl := block_lt_of_cell hy; have hzl := block_lt_of_cell hz; have hal := hD.lt.1
 have al : ∀ (o : Obj) (p : Addr) (u : Value), p.block < w.heap.size → w.cell? p = some u → (w.alloc o).cell? p = some u := fun o p u hp h => (World.cell?_alloc_lt w o p hp).trans h
 have hxa := fun o => al o _ _ hxl hx; have hya := fun o => al o _ _ hyl hy; have c1a := fun o => al o _ _ hal c1
 rcases hD.lookup true k (by omega) with ⟨hnone, _⟩ | ⟨bb, hsome, _⟩
 ·have hl : ∀ W : World, W.heap = w.heap ∨ (∃ o, W.heap = (w.alloc o).heap) → (Instr.lookup 41 (.map (some M)) (.int .i64 k) true).run Tryz.prog W = .ok (.tuple #[.agg (u8vs zeros).toArray, .bool false]) W := by
   intro W hW
   rcases (loads_of hD hW).lookup true k (by omega) with ⟨_, h⟩ | ⟨_, h, _⟩
   ·exact h
   ·rw [hnone] at h; cases h
  have hl1 := hl w.drew (.inl rfl)
  have hl2 := fun o => hl (w.alloc o).drew (.inr ⟨o, rfl⟩)
  have hvl : (u8vs zeros).length = 128 := by simp [u8vs, length_zeros]
  obtain ⟨W1, hst, hk1⟩ := forgets w zeros hvl
  have hD1 := hD.kept hk1 (by simp) (by simp) (by simp) (by simp)
  have hx1 := (hk1.cell (p := ⟨x, 0, none⟩) hxl (by simp)).trans hx
  have hy1 := (hk1.cell (p := ⟨y, 0, none⟩) hyl (by simp)).trans hy
  have hz1 := (hk1.cell (p := ⟨z, 0, none⟩) hzl (by simp)).trans hz
  obtain ⟨bk, hbk⟩ : ∃ bk, d.secs[k]? = some bk := ⟨_, List.getElem?_eq_getElem hk⟩
  have hbkl := hD.wf.size bk (List.mem_of_getElem? hbk)
  obtain ⟨es, clk, hmm, hup, hes, hes2⟩ := hD1.drew.update k (by omega) hnone bk
  have hk2 : Kept [M] W1 (setBlock W1.drew M (.map (es.push { key := i64v k, val := blkV bk, born := clk }) (clk + 1))) := (Kept.drew _ _).trans (Kept.setBlock hmm (by simp) _)
  have hmid : ({ d with sure := d.sure ++ [(k, bk)] } : Dev).Wf := by
   have h0 := hD.wf.midst hk hbkl
   simp only [Dev.midst, hnone, Option.isSome_none, hbk, Option.getD_some] at h0
   exact { h0 with
    one := by simpa using h0.one
    many := by simpa using h0.many
    size := hD.wf.size
    keyIn := by simpa using h0.keyIn }
  have hD2 := hD1.drew.putSure hmid hes hes2
  generalize setBlock W1.drew M (.map (es.push { key := i64v k, val := blkV bk, born := clk }) (clk + 1)) = W2 at hup hk2 hD2
  have hkw : Kept [M] w W2 := (hk1.mono (by simp)).trans hk2
  have hMs : ∀ j, j ∉ [S, M] → j ∉ [M] := fun j h1 h2 => h1 (by simp at h2; simp [h2])
  have hx2 := (hkw.cell (p := ⟨x, 0, none⟩) hxl (hMs _ hxs)).trans hx
  have hy2 := (hkw.cell (p := ⟨y, 0, none⟩) hyl (hMs _ hys)).trans hy
  have hz2 := (hkw.cell (p := ⟨z, 0, none⟩) hzl (hMs _ hzs)).trans hz
  have hs2 : SlAt W2 A 128 c (u8vs b) := hs.kept hkw (fun p hp => hMs _ (hAs p hp))
  have c1' := hD1.cells.2.1
  have c0' := hD1.cells.1
  have e0 := hD2.cells.1
  have hr1 : W1.drew.rangeAt S (k * 128) (u8vs bk) := flat_range hD1.secs hD1.wf.size hbk
  have hdm : d.midst k b = { { d with sure := d.sure ++ [(k, bk)] } with secs := d.secs.set k b } := by
   simp [Dev.midst, hnone, hbk]
  have hD3 := hD2.drew.put (k := k) hk hb
  have hk3 : Kept [S, M] w (W2.drew.setCells S (k * 128) (u8vs b)) := ((hkw.mono (by simp)).trans (Kept.drew _ _)).trans ((setCells_kept S (u8vs b) (k * 128) _).mono (by simp))
  have ht3 : W2.drew.there S (k * 128) 128 := flat_there hD2.secs hD2.wf.size hk
  have hi1 : (0 : Int) ≤ k ∧ (k : Int) < (d.secs.length : Int) := by omega
  rw [hdm]
  clear hl al hD hmm hes hes2 hmid hk1 hk2 hkw hMs hdm hbk hD2
  have hr2 : ∀ p, A = some p → W2.drew.rangeAt p.block p.off (u8vs b) := fun p hp => by
   subst hp
   obtain ⟨b0, o0, e, _, _⟩ := hs2.cells (by omega)
   cases e
   exact hs2.range
  have HB := Lib.hid hb; have HBK := Lib.hid hbkl; clear hb hbkl
  obtain ⟨b0, o0, rfl, _, _⟩ := hs2.cells (by omega)
  have hr2 := hr2 _ rfl
  unfold blkV at hup
  have harr := fun W => array_at W ⟨b0, o0, none⟩ c
  go_enter Tryz.func79, Tryz.ntmps79
  go_wp2
  go_region
  go_wp2
  refine wp_region_still_tail 12 (by kernel_rfl) (by kernel_rfl) ?_
  simp only [List.take_succ_cons, List.take_zero, List.drop_succ_cons, List.drop_zero]
  iterate 11 still_step
  refine still_load_mid rfl 90 _ rfl S (k * 128) rfl (u8vs bk) _ hr1 Tryz.underlying90 rfl (by rw [size_block]; simp [u8vs, HBK.out]) ?_
  refine wpStill_nil ?_
  go_wp2
  refine wp_region_still_tail 9 (by kernel_rfl) (by kernel_rfl) ?_
  simp only [List.take_succ_cons, List.take_zero, List.drop_succ_cons, List.drop_zero]
  iterate 7 still_step
  refine still_load_mid rfl 90 _ rfl b0 o0 rfl (u8vs b) _ hr2 Tryz.underlying90 rfl (by rw [size_block]; simp [u8vs, HB.out]) ?_
  still_step
  refine wpStill_nil ?_
  refine wpList_store_mid rfl 90 _ _ rfl S (k * 128) (u8vs b).toArray rfl rfl (by simpa [u8vs, HB.out] using ht3) (by rw [size_block]; simp [u8vs, HB.out]) (all_oneCell_toArray (one_u8 b)) ?_
  go_wp2
  go_end0
  exact ⟨rfl, hD3, hk3⟩
 ·have hl : ∀ W : World, W.heap = w.heap ∨ (∃ o, W.heap = (w.alloc o).heap) → (Instr.lookup 41 (.map (some M)) (.int .i64 k) true).run Tryz.prog W = .ok (.tuple #[.agg (u8vs bb).toArray, .bool true]) W := by
   intro W hW
   rcases (loads_of hD hW).lookup true k (by omega) with ⟨h, _⟩ | ⟨b2, h, h'⟩
   ·rw [hsome] at h; cases h
   ·rw [hsome] at h; cases h; exact h'
  have hl1 := hl w.drew (.inl rfl)
  have hl2 := fun o => hl (w.alloc o).drew (.inr ⟨o, rfl⟩)
  have hvl : (u8vs bb).length = 128 := by simp [u8vs, hD.wf.sureSize _ (Dev.look_mem hsome)]
  obtain ⟨W1, hst, hk1⟩ := forgets w bb hvl
  have hD1 := hD.kept hk1 (by simp) (by simp) (by simp) (by simp)
  have hx1 := (hk1.cell (p := ⟨x, 0, none⟩) hxl (by simp)).trans hx
  have hy1 := (hk1.cell (p := ⟨y, 0, none⟩) hyl (by simp)).trans hy
  have hz1 := (hk1.cell (p := ⟨z, 0, none⟩) hzl (by simp)).trans hz
  have hs2 : SlAt W1 A 128 c (u8vs b) := hs.kept hk1 (by simp)
  have e0 := hD1.cells.1
  have hdm : d.midst k b = { d with secs := d.secs.set k b } := by
   simp [Dev.midst, hsome]
  have hD3 := hD1.drew.put (k := k) hk hb
  have hk3 : Kept [S, M] w (W1.drew.setCells S (k * 128) (u8vs b)) := ((hk1.mono (by simp)).trans (Kept.drew _ _)).trans ((setCells_kept S (u8vs b) (k * 128) _).mono (by simp))
  have ht3 : W1.drew.there S (k * 128) 128 := flat_there hD1.secs hD1.wf.size hk
  have hi1 : (0 : Int) ≤ k ∧ (k : Int) < (d.secs.length : Int) := by omega
  rw [hdm]
  have hr2 : ∀ p, A = some p → W1.drew.rangeAt p.block p.off (u8vs b) := fun p hp => by
   subst hp
   obtain ⟨b0, o0, e, _, _⟩ := hs2.cells (by omega)
   cases e
   exact hs2.range
  clear hl al hD hk1 hdm hD1 hsome
  have HB := Lib.hid hb; clear hb
  obtain ⟨b0, o0, rfl, _, _⟩ := hs2.cells (by omega)
  have hr2 := hr2 _ rfl
  have harr := fun W => array_at W ⟨b0, o0, none⟩ c
  go_enter Tryz.func79, Tryz.ntmps79
  go_wp2
  go_region
  go_wp2
  refine wp_region_still_tail 9 (by kernel_rfl) (by kernel_rfl) ?_
  simp only [List.take_succ_cons, List.take_zero, List.drop_succ_cons, List.drop_zero]
  iterate 7 still_step
  refine still_load_mid rfl 90 _ rfl b0 o0 rfl (u8vs b) _ hr2 Tryz.underlying90 rfl (by rw [size_block]; simp [u8vs, HB.out]) ?_
  still_step
  refine wpStill_nil ?_
  refine wpList_store_mid rfl 90 _ _ rfl S (k * 128) (u8vs b).toArray rfl rfl (by simpa [u8vs, HB.out] using ht3) (by rw [size_block]; simp [u8vs, HB.out]) (all_oneCell_toArray (one_u8 b)) ?_
  go_wp2
  go_end0
  exact ⟨rfl, hD3, hk3⟩
end Go.Proofs.YtbnflbkaogpnbaaGreat
