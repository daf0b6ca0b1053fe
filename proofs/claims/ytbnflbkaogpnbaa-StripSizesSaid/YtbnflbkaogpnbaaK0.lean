/- The sorted keys of the map of what was sure. -/
import Derived.Test.YtbnflbkaogpnbaaD3
import Derived.Test.YtbnflbkaogpnbaaL0
namespace Go.Proofs.Ytbnflbkaogpnbaa
open Go.RowKit Go.Maps Go.Sort Go.Shelf

/-- How a value of the map is read: not at all. -/
def blindR (_ : Value) : Option (DataW Unit × List MemPlace) := some (.nil, [])

theorem sorts (m : Nat) : AnyZI.SortsIn Try.prog Try.sorted104_ren Fence.wide m :=
  ⟨fun blk off cap ss W hH hblk hsz => callsIn_wide.2 (AnyM.slices_Sort_int Try.sort124 blk off cap ss W hH hblk hsz),
   fun p cap W => callsIn_wide.2 (AnyM.slices_Sort_int_none Try.sort124 p cap W)⟩

theorem keys_any (mb : Option Nat) (W : World) : Calls Try.prog 105 #[.map mb] W fun e w' => e = .returned (.func (.func 125) #[] #[.pointer (some ⟨W.heap.size, 0, none⟩)]) ∧ w' = W.alloc (.cells #[.map mb] 59) :=
  callsIn_wide.1 (AnyZI.keys_in Try.keys105 Fence.wide 5 trivial rfl mb W)

set_option maxHeartbeats 1000000 in
theorem sorted_any (b nn : Nat) (D0 : DataW Unit) (w : World) (hown : w.ownsMap Try.prog 3 blindR b nn D0) (hmax : Maps.size D0 ≤ maxLen) (hbytes : Maps.size D0 * 8 ≤ 140737488355328) :
    Calls Try.prog 104 #[.func (.func 125) #[] #[.pointer (some ⟨w.heap.size, 0, none⟩)]] (w.alloc (.cells #[.map (some b)] 59)) fun e w' => ∃ (v : Value) (ss : List Int), e = .returned v ∧ ss.Perm (intKeys D0) ∧
      w'.ownsRow (w.alloc (.cells #[.map (some b)] 59)).heap.size 3 1 v ss.length ((ss.mergeSort (fun x y => decide (x ≤ y))).map encZ) ∧ (v = .slice none 0 0 ↔ ss = []) ∧ Below (w.alloc (.cells #[.map (some b)] 59)).heap.size (w.alloc (.cells #[.map (some b)] 59)) w' := by
  have hbl := hown.lt
  have hseq : SeqGives Fence.wide 2 Try.prog 125 #[.pointer (some ⟨w.heap.size, 0, none⟩)] encZ (fun ss => ss.Perm (intKeys D0)) (Maps.size D0) (w.alloc (.cells #[.map (some b)] 59)) :=
    AnyZI.keys_gives (ρ := Try.keys105_ren) { Try.keys105 with } Fence.wide _ trivial rfl (by omega) w.heap.size b nn D0 _ (by simp) (by simp) (by
      obtain ⟨es, clock, hb, Ft, hs, hD⟩ := hown
      exact ⟨es, clock, (Below.heap_alloc _ _ b hbl).trans hb, Ft, hs, hD⟩)
  exact callsIn_wide.1 (AnyZI.sorted_in Try.sorted104 Fence.wide 5 trivial trivial trivial trivial rfl (by omega) (sorts _) (enters_of Try.func124 (by kernel_rfl) rfl) 125 #[.pointer (some ⟨w.heap.size, 0, none⟩)] trivial (enters_of Try.func125 (by kernel_rfl) rfl) _ _ hmax hbytes _ hseq)

theorem mergeSort_cast (l : List Nat) (ss : List Int) (h : ss.Perm (l.map fun i : Nat => (i : Int))) : ss.mergeSort (fun x y => decide (x ≤ y)) = (l.mergeSort (· ≤ ·)).map fun i : Nat => (i : Int) := by
  have tr : ∀ a b c : Int, decide (a ≤ b) = true → decide (b ≤ c) = true → decide (a ≤ c) = true := fun a b c h1 h2 => by simp only [decide_eq_true_eq] at *; exact Int.le_trans h1 h2
  have to : ∀ a b : Int, (decide (a ≤ b) || decide (b ≤ a)) = true := fun a b => by simp only [Bool.or_eq_true, decide_eq_true_eq]; exact Int.le_total a b
  have trn : ∀ a b c : Nat, decide (a ≤ b) = true → decide (b ≤ c) = true → decide (a ≤ c) = true := fun a b c h1 h2 => by simp only [decide_eq_true_eq] at *; exact Nat.le_trans h1 h2
  have ton : ∀ a b : Nat, (decide (a ≤ b) || decide (b ≤ a)) = true := fun a b => by simp only [Bool.or_eq_true, decide_eq_true_eq]; exact Nat.le_total a b
  refine List.Perm.eq_of_pairwise (le := fun a b : Int => decide (a ≤ b) = true) (fun a b _ _ h1 h2 => ?_) (List.pairwise_mergeSort tr to ss) ?_ ?_
  · simp only [decide_eq_true_eq] at h1 h2
    exact Int.le_antisymm h1 h2
  · have hp := List.pairwise_mergeSort trn ton l
    exact List.pairwise_map.2 (hp.imp fun {a b} hab => by simp only [decide_eq_true_eq] at hab ⊢; omega)
  · exact ((List.mergeSort_perm ss _).trans h).trans ((List.mergeSort_perm l _).symm.map _)

theorem key_of (i : Nat) (hi : i < 8193) : keyOf Try.prog 3 (i64v i) = some (.int .i64 i) :=
  keyOf_int_mk Try.underlying3 (WalkArith.wf_i64 (by omega))

theorem rd_of {x : MapEntry} {i : Nat} (hi : i < 8193) (hx : x.key = i64v i) : WideElems.rd Try.prog 3 blindR x = some (.int .i64 i, .nil) := by
  unfold WideElems.rd
  rw [hx, key_of i hi]
  rfl

theorem nodup_len : ∀ (n : Nat) (l : List Nat), l.Nodup → (∀ i ∈ l, i < n) → l.length ≤ n := by
  intro n
  induction n with
  | zero =>
    intro l _ h
    cases l with
    | nil => simp
    | cons a r => exact absurd (h a List.mem_cons_self) (by omega)
  | succ n ih =>
    intro l hn h
    have h1 := ih (l.erase n) (hn.erase n) (fun i hi => by
      have h2 := (hn.mem_erase_iff).1 hi
      have := h i h2.2
      have := h2.1
      omega)
    have h3 := List.length_erase_le (a := n) (l := l)
    have h4 := List.le_length_erase (a := n) (l := l)
    omega

/-- The map of a device, as the library's contracts take it. -/
theorem DevAt.owns {w : World} {a S M : Nat} {K : Option Nat} {d : Dev} (h : DevAt w a S M K d) :
    ∃ D0 : DataW Unit, w.ownsMap Try.prog 3 blindR M 8192 D0 ∧ Maps.size D0 ≤ 8192 ∧ (intKeys D0).Perm ((d.sure.map (·.1)).map fun i : Nat => (i : Int)) := by
  obtain ⟨es, clk, hm, hs, hst⟩ := h.sure
  have hlen : es.size = d.sure.length := by
    have := congrArg List.length hs
    simpa [sureOf] using this
  have hkey : ∀ x ∈ es.toList, ∃ i : Nat, i < 8193 ∧ x.key = i64v i := by
    intro x hx
    have hx2 : (x.key, x.val) ∈ sureOf es := List.mem_map.2 ⟨x, hx, rfl⟩
    rw [hs, List.mem_map] at hx2
    obtain ⟨p, hp, e⟩ := hx2
    simp only [Prod.mk.injEq] at e
    have := h.wf.keyIn p hp
    have := h.wf.many
    exact ⟨p.1, by omega, e.1.symm⟩
  have hle : es.size ≤ 8192 := by
    have h1 := h.wf.nodup
    have h2 : ∀ i ∈ d.sure.map (·.1), i < 8192 := by
      intro i hi
      obtain ⟨p, hp, rfl⟩ := List.mem_map.1 hi
      have := h.wf.keyIn p hp
      have := h.wf.many
      omega
    have := nodup_len _ _ h1 h2
    simp only [List.length_map] at this
    omega
  refine ⟨_, ⟨es, clk, hm, ⟨by unfold maxLen; omega, hst, ?_⟩, hle, rfl⟩, ?_, ?_⟩
  · intro x hx
    obtain ⟨i, hi, e⟩ := hkey x hx
    exact ⟨_, rd_of hi e⟩
  · show (List.foldr DataW.insert [] _).length ≤ 8192
    rw [length_sorted]
    simpa using hle
  · show ((List.foldr DataW.insert [] _).map fun p => Go.intOf p.1).Perm _
    refine ((WideShapes.sorted_perm _).map _).trans ?_
    have : (es.toList.map (WideElems.rg Try.prog 3 blindR)).map (fun p => Go.intOf p.1) = (d.sure.map (·.1)).map fun i : Nat => (i : Int) := by
      have e1 : (es.toList.map (WideElems.rg Try.prog 3 blindR)).map (fun p => Go.intOf p.1) = (sureOf es).map fun p => RowKit.intOf p.1 := by
        unfold sureOf
        rw [List.map_map, List.map_map]
        refine List.map_congr_left fun x hx => ?_
        obtain ⟨i, hi, e⟩ := hkey x hx
        simp only [Function.comp, WideElems.rg, rd_of hi e, Option.getD_some, e]
        rfl
      rw [e1, hs, List.map_map, List.map_map]
      rfl
    rw [this]

/-- What Sorted(Keys) of a device's map does, from the world behind Keys. -/
def KeysPost (W : World) (l : List Nat) (e : Ending) (w' : World) : Prop :=
  ∃ A c, e = .returned (.slice A l.length c) ∧ w'.ownsRow W.heap.size 3 1 (.slice A l.length c) l.length (l.map fun i : Nat => i64v i) ∧ Below W.heap.size W w'

set_option maxHeartbeats 400000 in
theorem sortedKeys_any {w : World} {a S M : Nat} {K : Option Nat} {d : Dev} (hD : DevAt w a S M K d) :
    Calls Try.prog 104 #[.func (.func 125) #[] #[.pointer (some ⟨w.heap.size, 0, none⟩)]] (w.alloc (.cells #[.map (some M)] 59)) (KeysPost (w.alloc (.cells #[.map (some M)] 59)) d.keys) := by
  obtain ⟨D0, hown, hsz, hp⟩ := hD.owns
  refine (sorted_any M 8192 D0 w hown (by unfold maxLen; omega) (by omega)).mono ?_
  rintro e w' ⟨v, ss, rfl, hS, hrow, _, hb⟩
  have hms := mergeSort_cast (d.sure.map (·.1)) ss (hS.trans hp)
  have hl : ss.length = d.keys.length := by
    have h1 := (hS.trans hp).length_eq
    simpa [Dev.keys] using h1
  rw [hms, hl] at hrow
  have hrow' : w'.ownsRow (w.alloc (.cells #[.map (some M)] 59)).heap.size 3 1 v d.keys.length (d.keys.map fun i : Nat => i64v i) := by
    have e1 : (((d.sure.map (·.1)).mergeSort (· ≤ ·)).map fun i : Nat => (i : Int)).map encZ = d.keys.map fun i : Nat => i64v i := by
      rw [List.map_map]; rfl
    rw [e1] at hrow
    exact hrow
  obtain ⟨A, c, rfl, _⟩ := SlAt.of_own hrow'
  exact ⟨A, c, rfl, hrow', hb⟩
end Go.Proofs.Ytbnflbkaogpnbaa
