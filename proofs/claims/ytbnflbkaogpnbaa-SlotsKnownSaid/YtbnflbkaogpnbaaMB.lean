/- Texts in one: K0 K1 W0 W1 W2 G0 G1. -/
import Derived.Test.YtbnflbkaogpnbaaMA
import Derived.Test.YtbnflbkaogpnbaaL0
import Derived.Deep.MidRow
import Derived.StillTailTactics
/- The sorted keys of the map of what was sure. -/
namespace Go.Proofs.Ytbnflbkaogpnbaa
open Go.RowKit Go.Maps Go.Sort Go.Shelf

/-- How a value of the map is read: not at all. -/
def blindR (_ : Value) : Option (DataW Unit × List MemPlace) := some (.nil, [])

theorem sorts (m : Nat) : AnyZI.SortsIn Try.prog Try.sorted104_ren Fence.wide m :=
  ⟨fun blk off cap ss W hH hblk hsz => callsIn_wide.2 (AnyM.slices_Sort_int Try.sort124 blk off cap ss W hH hblk hsz),
   fun p cap W => callsIn_wide.2 (AnyM.slices_Sort_int_none Try.sort124 p cap W)⟩

theorem keys_any (mb : Option Nat) (W : World) : Calls Try.prog 105 #[.map mb] W fun e w' => e = .returned (.func (.func 125) #[] #[.pointer (some ⟨W.heap.size, 0, none⟩)]) ∧ w' = W.alloc (.cells #[.map mb] 59) :=
  callsIn_wide.1 (AnyZI.keys_in Try.keys105 Fence.wide 5 trivial rfl mb W)

set_option maxHeartbeats 1000000 in
theorem sorted_any (b nn : Nat) (D0 : DataW Unit) (w : World) (hown : w.ownsMap Try.prog 3 blindR b nn D0) (hmax : Maps.size D0 ≤ maxLen) (hbytes : Maps.size D0 * 8 ≤ 140737488355328) :
    Calls Try.prog 104 #[.func (.func 125) #[] #[.pointer (some ⟨w.heap.size, 0, none⟩)]] (w.alloc (.cells #[.map (some b)] 59)) fun e w' => ∃ (v : Value) (ss : List Int), e = .returned v ∧ ss.Perm (intKeys D0) ∧
      w'.ownsRow (w.alloc (.cells #[.map (some b)] 59)).heap.size 3 1 v ss.length ((ss.mergeSort (fun x y => decide (x ≤ y))).map encZ) ∧ (v = .slice none 0 0 ↔ ss = []) ∧ Below (w.alloc (.cells #[.map (some b)] 59)).heap.size (w.alloc (.cells #[.map (some b)] 59)) w' := by
  have hbl := hown.lt
  have hseq : SeqGives Fence.wide 2 Try.prog 125 #[.pointer (some ⟨w.heap.size, 0, none⟩)] encZ (fun ss => ss.Perm (intKeys D0)) (Maps.size D0) (w.alloc (.cells #[.map (some b)] 59)) :=
    AnyZI.keys_gives (ρ := Try.keys105_ren) { Try.keys105 with } Fence.wide _ trivial rfl (by omega) w.heap.size b nn D0 _ (by simp) (by simp) (by
      obtain ⟨es, clock, hb, Ft, hs, hD⟩ := hown
      exact ⟨es, clock, (Below.heap_alloc _ _ b hbl).trans hb, Ft, hs, hD⟩)
  exact callsIn_wide.1 (AnyZI.sorted_in Try.sorted104 Fence.wide 5 trivial trivial trivial trivial rfl (by omega) (sorts _) (enters_of Try.func124 (by kernel_rfl) rfl) 125 #[.pointer (some ⟨w.heap.size, 0, none⟩)] trivial (enters_of Try.func125 (by kernel_rfl) rfl) _ _ hmax hbytes _ hseq)

theorem mergeSort_cast (l : List Nat) (ss : List Int) (h : ss.Perm (l.map fun i : Nat => (i : Int))) : ss.mergeSort (fun x y => decide (x ≤ y)) = (l.mergeSort (· ≤ ·)).map fun i : Nat => (i : Int) := by
  have tr : ∀ a b c : Int, decide (a ≤ b) = true → decide (b ≤ c) = true → decide (a ≤ c) = true := fun a b c h1 h2 => by simp only [decide_eq_true_eq] at *; exact Int.le_trans h1 h2
  have to : ∀ a b : Int, (decide (a ≤ b) || decide (b ≤ a)) = true := fun a b => by simp only [Bool.or_eq_true, decide_eq_true_eq]; exact Int.le_total a b
  have trn : ∀ a b c : Nat, decide (a ≤ b) = true → decide (b ≤ c) = true → decide (a ≤ c) = true := fun a b c h1 h2 => by simp only [decide_eq_true_eq] at *; exact Nat.le_trans h1 h2
  have ton : ∀ a b : Nat, (decide (a ≤ b) || decide (b ≤ a)) = true := fun a b => by simp only [Bool.or_eq_true, decide_eq_true_eq]; exact Nat.le_total a b
  refine List.Perm.eq_of_pairwise (le := fun a b : Int => decide (a ≤ b) = true) (fun a b _ _ h1 h2 => ?_) (List.pairwise_mergeSort tr to ss) ?_ ?_
  · simp only [decide_eq_true_eq] at h1 h2
    exact Int.le_antisymm h1 h2
  · have hp := List.pairwise_mergeSort trn ton l
    exact List.pairwise_map.2 (hp.imp fun {a b} hab => by simp only [decide_eq_true_eq] at hab ⊢; omega)
  · exact ((List.mergeSort_perm ss _).trans h).trans ((List.mergeSort_perm l _).symm.map _)

theorem key_of (i : Nat) (hi : i < 8193) : keyOf Try.prog 3 (i64v i) = some (.int .i64 i) :=
  keyOf_int_mk Try.underlying3 (WalkArith.wf_i64 (by omega))

theorem rd_of {x : MapEntry} {i : Nat} (hi : i < 8193) (hx : x.key = i64v i) : WideElems.rd Try.prog 3 blindR x = some (.int .i64 i, .nil) := by
  unfold WideElems.rd
  rw [hx, key_of i hi]
  rfl

theorem nodup_len : ∀ (n : Nat) (l : List Nat), l.Nodup → (∀ i ∈ l, i < n) → l.length ≤ n := by
  intro n
  induction n with
  | zero =>
    intro l _ h
    cases l with
    | nil => simp
    | cons a r => exact absurd (h a List.mem_cons_self) (by omega)
  | succ n ih =>
    intro l hn h
    have h1 := ih (l.erase n) (hn.erase n) (fun i hi => by
      have h2 := (hn.mem_erase_iff).1 hi
      have := h i h2.2
      have := h2.1
      omega)
    have h3 := List.length_erase_le (a := n) (l := l)
    have h4 := List.le_length_erase (a := n) (l := l)
    omega

/-- The map of a device, as the library's contracts take it. -/
theorem DevAt.owns {w : World} {a S M : Nat} {K : Option Nat} {d : Dev} (h : DevAt w a S M K d) :
    ∃ D0 : DataW Unit, w.ownsMap Try.prog 3 blindR M 8192 D0 ∧ Maps.size D0 ≤ 8192 ∧ (intKeys D0).Perm ((d.sure.map (·.1)).map fun i : Nat => (i : Int)) := by
  obtain ⟨es, clk, hm, hs, hst⟩ := h.sure
  have hlen : es.size = d.sure.length := by
    have := congrArg List.length hs
    simpa [sureOf] using this
  have hkey : ∀ x ∈ es.toList, ∃ i : Nat, i < 8193 ∧ x.key = i64v i := by
    intro x hx
    have hx2 : (x.key, x.val) ∈ sureOf es := List.mem_map.2 ⟨x, hx, rfl⟩
    rw [hs, List.mem_map] at hx2
    obtain ⟨p, hp, e⟩ := hx2
    simp only [Prod.mk.injEq] at e
    have := h.wf.keyIn p hp
    have := h.wf.many
    exact ⟨p.1, by omega, e.1.symm⟩
  have hle : es.size ≤ 8192 := by
    have h1 := h.wf.nodup
    have h2 : ∀ i ∈ d.sure.map (·.1), i < 8192 := by
      intro i hi
      obtain ⟨p, hp, rfl⟩ := List.mem_map.1 hi
      have := h.wf.keyIn p hp
      have := h.wf.many
      omega
    have := nodup_len _ _ h1 h2
    simp only [List.length_map] at this
    omega
  refine ⟨_, ⟨es, clk, hm, ⟨by unfold maxLen; omega, hst, ?_⟩, hle, rfl⟩, ?_, ?_⟩
  · intro x hx
    obtain ⟨i, hi, e⟩ := hkey x hx
    exact ⟨_, rd_of hi e⟩
  · show (List.foldr DataW.insert [] _).length ≤ 8192
    rw [length_sorted]
    simpa using hle
  · show ((List.foldr DataW.insert [] _).map fun p => Go.intOf p.1).Perm _
    refine ((WideShapes.sorted_perm _).map _).trans ?_
    have : (es.toList.map (WideElems.rg Try.prog 3 blindR)).map (fun p => Go.intOf p.1) = (d.sure.map (·.1)).map fun i : Nat => (i : Int) := by
      have e1 : (es.toList.map (WideElems.rg Try.prog 3 blindR)).map (fun p => Go.intOf p.1) = (sureOf es).map fun p => RowKit.intOf p.1 := by
        unfold sureOf
        rw [List.map_map, List.map_map]
        refine List.map_congr_left fun x hx => ?_
        obtain ⟨i, hi, e⟩ := hkey x hx
        simp only [Function.comp, WideElems.rg, rd_of hi e, Option.getD_some, e]
        rfl
      rw [e1, hs, List.map_map, List.map_map]
      rfl
    rw [this]

/-- What Sorted(Keys) of a device's map does, from the world behind Keys. -/
def KeysPost (W : World) (l : List Nat) (e : Ending) (w' : World) : Prop :=
  ∃ A c, e = .returned (.slice A l.length c) ∧ w'.ownsRow W.heap.size 3 1 (.slice A l.length c) l.length (l.map fun i : Nat => i64v i) ∧ Below W.heap.size W w'

set_option maxHeartbeats 400000 in
theorem sortedKeys_any {w : World} {a S M : Nat} {K : Option Nat} {d : Dev} (hD : DevAt w a S M K d) :
    Calls Try.prog 104 #[.func (.func 125) #[] #[.pointer (some ⟨w.heap.size, 0, none⟩)]] (w.alloc (.cells #[.map (some M)] 59)) (KeysPost (w.alloc (.cells #[.map (some M)] 59)) d.keys) := by
  obtain ⟨D0, hown, hsz, hp⟩ := hD.owns
  refine (sorted_any M 8192 D0 w hown (by unfold maxLen; omega) (by omega)).mono ?_
  rintro e w' ⟨v, ss, rfl, hS, hrow, _, hb⟩
  have hms := mergeSort_cast (d.sure.map (·.1)) ss (hS.trans hp)
  have hl : ss.length = d.keys.length := by
    have h1 := (hS.trans hp).length_eq
    simpa [Dev.keys] using h1
  rw [hms, hl] at hrow
  have hrow' : w'.ownsRow (w.alloc (.cells #[.map (some M)] 59)).heap.size 3 1 v d.keys.length (d.keys.map fun i : Nat => i64v i) := by
    have e1 : (((d.sure.map (·.1)).mergeSort (· ≤ ·)).map fun i : Nat => (i : Int)).map encZ = d.keys.map fun i : Nat => i64v i := by
      rw [List.map_map]; rfl
    rw [e1] at hrow
    exact hrow
  obtain ⟨A, c, rfl, _⟩ := SlAt.of_own hrow'
  exact ⟨A, c, rfl, hrow', hb⟩
end Go.Proofs.Ytbnflbkaogpnbaa

/- The map of what was sure: look, put, clear. -/
namespace Go.Proofs.Ytbnflbkaogpnbaa
open Go.RowKit Go.Maps
open Go.ChangeMaps (setBlock heap_setBlock_same heap_setBlock_other)

def blkV (b : Blk) : Value := .agg (u8vs b).toArray

theorem zero_cells : Value.agg Try.zeroCells108 = blkV zeros := by kernel_rfl

theorem DevAt.keys_ok {w : World} {a S M : Nat} {K : Option Nat} {d : Dev} (h : DevAt w a S M K d) {es : Array MapEntry} {clk : Nat} (hm : w.heap[M]? = some (.map es clk)) :
    sureOf es = (d.sure.map fun p => (i64v p.1, blkV p.2)) ∧ MapKept.Stamped es clk ∧ ∀ x ∈ es.toList, ∃ l, keyOf Try.prog 3 x.key = some l := by
  obtain ⟨es', clk', hm', hs, hst⟩ := h.sure
  rw [hm] at hm'
  simp only [Option.some.injEq, Obj.map.injEq] at hm'
  obtain ⟨rfl, rfl⟩ := hm'
  refine ⟨hs, hst, ?_⟩
  intro x hx
  have hx2 : (x.key, x.val) ∈ sureOf es := List.mem_map.2 ⟨x, hx, rfl⟩
  rw [hs, List.mem_map] at hx2
  obtain ⟨p, hp, e⟩ := hx2
  simp only [Prod.mk.injEq] at e
  have := h.wf.keyIn p hp
  have := h.wf.many
  exact ⟨_, by rw [← e.1]; exact key_of p.1 (by omega)⟩

theorem look_of_mem {s : List (Nat × Blk)} {i : Nat} {b : Blk} (hn : (s.map (·.1)).Nodup) (h : (i, b) ∈ s) : Dev.look s i = some b := by
  obtain ⟨c, hc⟩ := Dev.look_of_key (s := s) (i := i) (List.mem_map.2 ⟨_, h, rfl⟩)
  rw [hc]
  have hm := Dev.look_mem hc
  induction s with
  | nil => cases h
  | cons p r ih =>
    simp only [List.map_cons, List.nodup_cons] at hn
    rcases List.mem_cons.1 h with h1 | h1 <;> rcases List.mem_cons.1 hm with h2 | h2
    · rw [← h1] at h2; simp at h2; rw [h2]
    · exact absurd (List.mem_map.2 ⟨_, h2, rfl⟩) (by rw [← h1] at hn; exact hn.1)
    · exact absurd (List.mem_map.2 ⟨_, h1, rfl⟩) (by rw [← h2] at hn; exact hn.1)
    · refine ih hn.2 h1 ?_ h2
      have : p.1 ≠ i := fun e => hn.1 (by rw [e]; exact List.mem_map.2 ⟨_, h1, rfl⟩)
      simpa [Dev.look, List.find?_cons, this] using hc

theorem DevAt.lookup {w : World} {a S M : Nat} {K : Option Nat} {d : Dev} (h : DevAt w a S M K d) (c : Bool) (k : Nat) (hk : k < 8193) :
    (Dev.look d.sure k = none ∧ (Instr.lookup 59 (.map (some M)) (.int .i64 k) c).run Try.prog w = .ok (if c then .tuple #[blkV zeros, .bool false] else blkV zeros) w) ∨
    ∃ b, Dev.look d.sure k = some b ∧ (Instr.lookup 59 (.map (some M)) (.int .i64 k) c).run Try.prog w = .ok (if c then .tuple #[blkV b, .bool true] else blkV b) w := by
  obtain ⟨es, clk, hm, _⟩ := h.sure
  obtain ⟨hs, hst, hks⟩ := h.keys_ok hm
  have KK : Keyed Try.prog 3 := int_keyed Try.underlying3
  have hkey := key_of k hk
  rcases KK.find w hkey es.toList hks with ⟨h1, h2⟩ | ⟨j, e0, h1, h2, h3⟩
  · refine .inl ⟨?_, ?_⟩
    · rw [Dev.look_none]
      intro hin
      obtain ⟨p, hp, hpk⟩ := List.mem_map.1 hin
      have : (i64v p.1, blkV p.2) ∈ sureOf es := by rw [hs]; exact List.mem_map.2 ⟨p, hp, rfl⟩
      obtain ⟨x, hx, e⟩ := List.mem_map.1 this
      simp only [Prod.mk.injEq] at e
      exact h2 x hx (by rw [e.1, hpk])
    · have hc := fun em => KK.check w em hkey
      unfold i64v at h1 hc
      cases c <;> simp [Instr.lookup, run_underlying Try.underlying59, MapKept.run_getObj_map hm, hc, h1, zero_cells, Result.andThen]
  · have hm0 : e0 ∈ es.toList := List.mem_of_getElem? h2
    have hx2 : (e0.key, e0.val) ∈ sureOf es := List.mem_map.2 ⟨e0, hm0, rfl⟩
    rw [hs, List.mem_map] at hx2
    obtain ⟨p, hp, e⟩ := hx2
    simp only [Prod.mk.injEq] at e
    have hpk : p.1 = k := by
      have := e.1.trans h3
      simp only [i64v, Value.int.injEq, true_and] at this
      omega
    refine .inr ⟨p.2, look_of_mem h.wf.nodup (by rw [← hpk]; exact hp), ?_⟩
    rw [← e.2] at h1
    have hc := fun em => KK.check w em hkey
    unfold i64v at h1 hc
    cases c <;> simp [Instr.lookup, run_underlying Try.underlying59, MapKept.run_getObj_map hm, hc, h1, Result.andThen]

theorem DevAt.update {w : World} {a S M : Nat} {K : Option Nat} {d : Dev} (h : DevAt w a S M K d) (k : Nat) (hk : k < 8193) (hn : Dev.look d.sure k = none) (b : Blk) :
    ∃ es clk, w.heap[M]? = some (.map es clk) ∧ (Instr.mapUpdate 59 (.map (some M)) (.int .i64 k) (blkV b)).run Try.prog w = .ok () (setBlock w M (.map (es.push { key := i64v k, val := blkV b, born := clk }) (clk + 1))) ∧
      sureOf (es.push { key := i64v k, val := blkV b, born := clk }) = ((d.sure ++ [(k, b)]).map fun p => (i64v p.1, blkV p.2)) ∧ MapKept.Stamped (es.push { key := i64v k, val := blkV b, born := clk }) (clk + 1) := by
  obtain ⟨es, clk, hm, _⟩ := h.sure
  obtain ⟨hs, hst, hks⟩ := h.keys_ok hm
  have KK : Keyed Try.prog 3 := int_keyed Try.underlying3
  have hkey := key_of k hk
  have hne : ∀ x ∈ es.toList, x.key ≠ i64v k := by
    intro x hx hxk
    have hx2 : (x.key, x.val) ∈ sureOf es := List.mem_map.2 ⟨x, hx, rfl⟩
    rw [hs, List.mem_map] at hx2
    obtain ⟨p, hp, e⟩ := hx2
    simp only [Prod.mk.injEq] at e
    have hpk : p.1 = k := by
      have := e.1.trans hxk
      simp only [i64v, Value.int.injEq, true_and] at this
      omega
    exact (Dev.look_none.1 hn) (List.mem_map.2 ⟨p, hp, hpk⟩)
  refine ⟨es, clk, hm, ?_, ?_, MapKept.stamped_push hst hne⟩
  · rcases KK.find w hkey es.toList hks with ⟨h1, h2⟩ | ⟨j, e0, h1, h2, h3⟩
    · have hc := KK.check w false hkey
      unfold i64v at h1 hc ⊢
      simp [Instr.mapUpdate, run_underlying Try.underlying59, MapKept.run_getObj_map hm, hc, h1, MapKept.run_setObj_map _ hm, Result.andThen, setBlock]
    · exact absurd h3 (hne e0 (List.mem_of_getElem? h2))
  · rw [List.map_append, ← hs]
    simp [sureOf]

theorem DevAt.clear {w : World} {a S M : Nat} {K : Option Nat} {d : Dev} (h : DevAt w a S M K d) :
    ∃ clk, (∃ es, w.heap[M]? = some (.map es clk)) ∧ ∀ ty, (Builtin.clear_ #[59] ty #[.map (some M)]).run Try.prog w = .ok (.tuple #[]) (setBlock w M (.map #[] clk)) := by
  obtain ⟨es, clk, hm, _⟩ := h.sure
  refine ⟨clk, ⟨es, hm⟩, fun ty => ?_⟩
  simp [Builtin.clear_, run_underlying Try.underlying59, MapKept.run_getObj_map hm, MapKept.run_setObj_map _ hm, Result.andThen, setBlock]
end Go.Proofs.Ytbnflbkaogpnbaa

/- The midst of a Write. -/
namespace Go.Proofs.Ytbnflbkaogpnbaa
open Go.RowKit Go.Maps
open Go.ChangeMaps (setBlock heap_setBlock_same heap_setBlock_other)

theorem still_load_mid {P : Program} {ops : Array Oper} {rest : List Oper} {op : Oper} {a : Act} {w : World} {Q : Act → Prop} (hgd : op.guard = none) (ty : TypeId) (x : Operand) (ho : op.op = .load ty x)
    (b o : Nat) (hx : a.eval x = .pointer (some ⟨b, o, none⟩)) (cs : List Value) (d : TypeDesc) (hc : w.rangeAt b o cs)
    (hu : P.underlying ty = some d) (hd : d.isRow = true) (hi : (P.info? ty).map (·.size) = some cs.length)
    (h : wpStill P ops w Q rest (a.put op.dst (.agg cs.toArray))) : wpStill P ops w Q (op :: rest) a := by
  unfold wpStill
  rw [if_pos (by simp [Region.wanted, hgd])]
  unfold Oper.still execOp
  simp only [ho, hx, Instr.loadAt, Instr.sureAddr, Sem.run_bind, Sem.run_pure, Result.andThen_ok, run_loadVar_mid w b o ty cs d hc hu hd hi]
  exact ⟨rfl, h⟩

theorem size_block : (Try.prog.info? 108).map (·.size) = some 128 := by kernel_rfl

/-- A row of values is stored into a block from an offset on: the row behind it. -/
def spliced (cs : Array Value) (o : Nat) (vs : List Value) : Array Value := (cs.toList.take o ++ vs ++ cs.toList.drop (o + vs.length)).toArray

theorem splice_step {α : Type} (l : List α) (o : Nat) (v : α) (r : List α) (h : o + (r.length + 1) ≤ l.length) :
    (l.set o v).take (o + 1) ++ r ++ (l.set o v).drop (o + 1 + r.length) = l.take o ++ (v :: r) ++ l.drop (o + (r.length + 1)) := by
  have e1 : (l.set o v).take (o + 1) = l.take o ++ [v] := by
    rw [List.take_succ_eq_append_getElem (by simp; omega), List.take_set_of_le (by omega)]
    simp
  have e2 : (l.set o v).drop (o + 1 + r.length) = l.drop (o + (r.length + 1)) := by
    rw [List.drop_set_of_lt (by omega)]
    congr 1
    omega
  rw [e1, e2]
  simp

theorem setCells_heap (b : Nat) (t : TypeId) : ∀ (vs : List Value) (o : Nat) (w : World) (cs : Array Value), w.heap[b]? = some (.cells cs t (0, 0)) → o + vs.length ≤ cs.size →
    (w.setCells b o vs).heap[b]? = some (.cells (spliced cs o vs) t (0, 0)) := by
  intro vs
  induction vs with
  | nil => intro o w cs h _; simp [World.setCells, spliced, h]
  | cons v r ih =>
    intro o w cs h hl
    simp only [List.length_cons] at hl
    simp only [World.setCells]
    rw [ih (o + 1) _ _ (heap_set h o v) (by simp; omega)]
    simp only [spliced, Array.toList_setIfInBounds, List.length_cons]
    rw [splice_step cs.toList o v r (by simpa using hl)]

theorem setCells_kept (b : Nat) (vs : List Value) : ∀ (o : Nat) (w : World), Kept [b] w (w.setCells b o vs) := by
  induction vs with
  | nil => intro o w; exact Kept.refl _ _
  | cons v r ih => intro o w; exact (Kept.setCell (p := ⟨b, o, none⟩) (by simp) v).trans (ih (o + 1) _)

theorem flat_set (s : List Blk) (hs : ∀ b ∈ s, b.length = 128) (k : Nat) (hk : k < s.length) (b : Blk) (hb : b.length = 128) : spliced (flat s) (k * 128) (u8vs b) = flat (s.set k b) := by
  have hl : (u8vs b).length = 128 := by simp [u8vs, hb]
  have key : ∀ (s : List Blk) (k : Nat), (∀ b ∈ s, b.length = 128) → k < s.length → (s.flatMap u8vs).take (k * 128) ++ u8vs b ++ (s.flatMap u8vs).drop (k * 128 + 128) = (s.set k b).flatMap u8vs := by
    intro s
    induction s with
    | nil => intro k _ hk; simp at hk
    | cons c r ih =>
      intro k hs hk
      have hc : (u8vs c).length = 128 := by simp [u8vs, hs c List.mem_cons_self]
      cases k with
      | zero =>
        simp only [Nat.zero_mul, List.take_zero, List.nil_append, Nat.zero_add, List.flatMap_cons, List.set_cons_zero]
        have e2 : (u8vs c ++ r.flatMap u8vs).drop 128 = r.flatMap u8vs := by
          rw [← hc]; exact List.drop_left
        rw [e2]
      | succ k =>
        have h1 := ih k (fun b hb => hs b (List.mem_cons_of_mem _ hb)) (by simpa using hk)
        simp only [List.flatMap_cons, List.set_cons_succ]
        have e1 : (u8vs c ++ r.flatMap u8vs).take ((k + 1) * 128) = u8vs c ++ (r.flatMap u8vs).take (k * 128) := by
          have e0 : (k + 1) * 128 - 128 = k * 128 := by omega
          rw [List.take_append, List.take_of_length_le (by omega), hc, e0]
        have e2 : (u8vs c ++ r.flatMap u8vs).drop ((k + 1) * 128 + 128) = (r.flatMap u8vs).drop (k * 128 + 128) := by
          have e0 : (k + 1) * 128 + 128 - 128 = k * 128 + 128 := by omega
          rw [List.drop_append, List.drop_of_length_le (by omega), hc, List.nil_append, e0]
        rw [← h1, e1, e2]
        simp only [List.append_assoc]
  have h1 := key s k hs hk
  unfold spliced flat
  rw [hl, ← h1]

theorem flat_range {w : World} {S : Nat} {s : List Blk} (h : w.heap[S]? = some (.cells (flat s) 108 (0, 0))) (hs : ∀ b ∈ s, b.length = 128) {k : Nat} {b : Blk} (hb : s[k]? = some b) : w.rangeAt S (k * 128) (u8vs b) := by
  intro j v hj
  have hl : j < 128 := by
    have h1 := (List.getElem?_eq_some_iff.1 hj).1
    simpa [u8vs, hs b (List.mem_of_getElem? hb)] using h1
  rw [blk_cell h, flat_at s hs k j b hb hl, hj]

theorem flat_there {w : World} {S : Nat} {s : List Blk} (h : w.heap[S]? = some (.cells (flat s) 108 (0, 0))) (hs : ∀ b ∈ s, b.length = 128) {k : Nat} (hk : k < s.length) : w.there S (k * 128) 128 := by
  intro j hj
  refine ⟨?_, blk_frozen h _⟩
  rw [blk_cell h, Array.getElem?_eq_getElem (by rw [length_flat s hs]; omega)]
  rfl

theorem SlAt.range {w : World} {b o n c : Nat} {xs : List Value} (h : SlAt w (some ⟨b, o, none⟩) n c xs) : w.rangeAt b o xs := by
  intro j v hj
  have := h.news j v hj
  rwa [add_block] at this
end Go.Proofs.Ytbnflbkaogpnbaa

/- The midst of a Write: the walk. -/
namespace Go.Proofs.Ytbnflbkaogpnbaa
open Go.RowKit Go.Maps
open Go.ChangeMaps (setBlock heap_setBlock_same heap_setBlock_other)

theorem Kept.drew (F : List Nat) (w : World) : Kept F w w.drew := ⟨rfl, rfl, rfl, Nat.le_refl _, fun _ _ _ => rfl⟩
theorem Kept.setBlock {F : List Nat} {w : World} {M : Nat} {es : Array MapEntry} {clk : Nat} (hm : w.heap[M]? = some (.map es clk)) (hF : M ∈ F) (o : Obj) : Kept F w (setBlock w M o) :=
  ⟨rfl, rfl, rfl, by simp [ChangeMaps.setBlock], fun k _ hn => heap_setBlock_other hm o (fun e => hn (e ▸ hF))⟩

theorem DevAt.drew {w : World} {a S M : Nat} {K : Option Nat} {d : Dev} (h : DevAt w a S M K d) : DevAt w.drew a S M K d := h.kept (Kept.drew [] w) (by simp) (by simp) (by simp) (by simp)

/-- A sector is written. -/
theorem DevAt.put {w : World} {a S M : Nat} {K : Option Nat} {d : Dev} (h : DevAt w a S M K d) {k : Nat} (hk : k < d.secs.length) {b : Blk} (hb : b.length = 128) :
    DevAt (w.setCells S (k * 128) (u8vs b)) a S M K { d with secs := d.secs.set k b } := by
  obtain ⟨n1, n2, n3, n4, n5, n6⟩ := h.ne
  obtain ⟨l1, l2, l3, l4⟩ := h.lt
  obtain ⟨kv, h1, h2, hr⟩ := h.head
  obtain ⟨es, clk, h3, h4, h5⟩ := h.sure
  have hk' := setCells_kept S (u8vs b) (k * 128) w
  have hl : (u8vs b).length = 128 := by simp [u8vs, hb]
  have hwf : ({ d with secs := d.secs.set k b } : Dev).Wf := { h.wf with
    one := by simpa using h.wf.one
    many := by simpa using h.wf.many
    size := fun c hc => by
      rcases List.mem_or_eq_of_mem_set hc with h1 | h1
      · exact h.wf.size c h1
      · rw [h1]; exact hb
    keyIn := by simpa using h.wf.keyIn }
  refine ⟨hwf, ⟨kv, ?_, h2, ?_⟩, ?_, ⟨es, clk, (hk'.block M l3 (by simpa using fun e => n3 e.symm)).trans h3, h4, h5⟩⟩
  · rw [hk'.block a l1 (by simpa using n1), h1]
    simp
  · obtain ⟨r1, r2⟩ := hr
    refine ⟨r1, ?_⟩
    rcases r2 with r2 | ⟨g, cap, cur, rfl, hb', hg, r3⟩
    · exact .inl r2
    · have hgK : K = some g := by rw [← h2]; rfl
      refine .inr ⟨g, cap, cur, rfl, hb', (hk'.block g (l4 g hgK) ?_).trans hg, r3⟩
      simp only [List.mem_singleton]
      rintro rfl
      exact n5 hgK
  · rw [setCells_heap S 108 (u8vs b) (k * 128) w _ h.secs (by rw [length_flat _ h.wf.size, hl]; omega), flat_set _ h.wf.size k hk b hb]

/-- The map is written. -/
theorem DevAt.putSure {w : World} {a S M : Nat} {K : Option Nat} {d : Dev} (h : DevAt w a S M K d) {es : Array MapEntry} {clk : Nat} {s : List (Nat × Blk)} (hwf : ({ d with sure := s } : Dev).Wf)
    (hs : sureOf es = s.map fun p => (i64v p.1, blkV p.2)) (hst : MapKept.Stamped es clk) : DevAt (setBlock w M (.map es clk)) a S M K { d with sure := s } := by
  obtain ⟨n1, n2, n3, n4, n5, n6⟩ := h.ne
  obtain ⟨l1, l2, l3, l4⟩ := h.lt
  obtain ⟨kv, h1, h2, hr⟩ := h.head
  obtain ⟨es0, clk0, h3, h4, h5⟩ := h.sure
  have hk' := Kept.setBlock (F := [M]) h3 (by simp) (.map es clk)
  refine ⟨hwf, ⟨kv, ?_, h2, ?_⟩, ?_, ⟨es, clk, heap_setBlock_same h3 _, hs, hst⟩⟩
  · rw [hk'.block a l1 (by simpa using n2), h1]
  · obtain ⟨r1, r2⟩ := hr
    refine ⟨r1, ?_⟩
    rcases r2 with r2 | ⟨g, cap, cur, rfl, hb', hg, r3⟩
    · exact .inl r2
    · have hgK : K = some g := by rw [← h2]; rfl
      refine .inr ⟨g, cap, cur, rfl, hb', (hk'.block g (l4 g hgK) ?_).trans hg, r3⟩
      simp only [List.mem_singleton]
      rintro rfl
      exact n6 hgK
  · rw [hk'.block S l2 (by simpa using n3)]
    exact h.secs

/-- What the midst of a Write does. -/
def MidPost (w : World) (a S M : Nat) (K : Option Nat) (d : Dev) (e : Ending) (w' : World) : Prop := e = .returned (.tuple #[]) ∧ DevAt w' a S M K d ∧ Kept [S, M] w w'

/-- The store of a sector that is told of and forgotten. -/
theorem forgets (w : World) (v : Blk) (hv : (u8vs v).length = 128) :
    ∃ W1, (storeCells ⟨w.heap.size, 0, none⟩ (u8vs v)).run Try.prog (w.alloc (.cells Try.zeroCells108 108)).drew = .ok () W1 ∧ Kept [] w W1 := by
  have hz : (u8vs zeros).toArray = Try.zeroCells108 := by
    have := zero_cells
    simp only [blkV, Value.agg.injEq] at this
    exact this.symm
  have hh : (w.alloc (.cells Try.zeroCells108 108)).drew.heap[w.heap.size]? = some (.cells Try.zeroCells108 108 (0, 0)) := heap_alloc_new w _
  have hsz : Try.zeroCells108.size = 128 := by rw [← hz]; simp [u8vs, length_zeros]
  have ht : ∀ j, j < (u8vs v).length → ((w.alloc (.cells Try.zeroCells108 108)).drew.cell? ⟨w.heap.size, 0 + 0 + j, none⟩).isSome = true := by
    intro j hj
    rw [blk_cell hh, Array.getElem?_eq_getElem (by omega)]
    rfl
  have := run_storeCells_cells (P := Try.prog) w.heap.size 0 (u8vs v) 0 (w.alloc (.cells Try.zeroCells108 108)).drew ht (fun j _ => blk_frozen hh _) (one_u8 v)
  refine ⟨_, this, ?_⟩
  exact ((Kept.alloc [] w _).trans (Kept.drew [] _)).trans' (setCells_kept w.heap.size (u8vs v) (0 + 0) _) (by simp)

theorem loads_of {w W : World} {a S M : Nat} {K : Option Nat} {d : Dev} (h : DevAt w a S M K d) (hW : W.heap = w.heap ∨ ∃ o, W.heap = (w.alloc o).heap) : DevAt W a S M K d := by
  obtain ⟨l1, l2, l3, l4⟩ := h.lt
  have hb : ∀ j, j < w.heap.size → W.heap[j]? = w.heap[j]? := by
    intro j hj
    rcases hW with e | ⟨o, e⟩
    · rw [e]
    · rw [e]; exact Below.heap_alloc w o j hj
  obtain ⟨kv, h1, h2, hr⟩ := h.head
  obtain ⟨es, clk, h3, h4⟩ := h.sure
  refine ⟨h.wf, ⟨kv, (hb a l1).trans h1, h2, ?_⟩, (hb S l2).trans h.secs, ⟨es, clk, (hb M l3).trans h3, h4⟩⟩
  obtain ⟨r1, r2⟩ := hr
  refine ⟨r1, ?_⟩
  rcases r2 with r2 | ⟨g, cap, cur, rfl, hb', hg, r3⟩
  · exact .inl r2
  · have hgK : K = some g := by rw [← h2]; rfl
    exact .inr ⟨g, cap, cur, rfl, hb', (hb g (l4 g hgK)).trans hg, r3⟩
end Go.Proofs.Ytbnflbkaogpnbaa

/- The midst of a Write: the walk. -/
namespace Go.Proofs.Ytbnflbkaogpnbaa
open Go.RowKit Go.Maps
open Go.ChangeMaps (setBlock heap_setBlock_same heap_setBlock_other)

theorem agg_block (d : TypeDesc) (h : Try.prog.underlying 108 = some d) : d.isRow = true := by
  have := Try.underlying108
  rw [this] at h
  cases h
  rfl

set_option maxHeartbeats 1000000 in
theorem array_at (W : World) (p : Addr) (c : Nat) : (Instr.arrayAt 108 (.slice (some p) 128 c)).run Try.prog W = .ok (.pointer (some p)) W := by
  simp [Instr.arrayAt, run_underlying Try.underlying108]

set_option maxHeartbeats 1000000 in
set_option maxRecDepth 100000 in
theorem write1_any {w : World} {a S M : Nat} {K : Option Nat} {d : Dev} (hD : DevAt w a S M K d) (x y z k : Nat) (b : Blk) (A : Option Addr) (c : Nat)
    (hx : w.cell? ⟨x, 0, none⟩ = some (.pointer (some ⟨a, 0, none⟩))) (hy : w.cell? ⟨y, 0, none⟩ = some (.int .i64 k)) (hz : w.cell? ⟨z, 0, none⟩ = some (.slice A 128 c))
    (hxs : x ∉ [S, M]) (hys : y ∉ [S, M]) (hzs : z ∉ [S, M]) (hAs : ∀ p, A = some p → p.block ∉ [S, M])
    (hs : SlAt w A 128 c (u8vs b)) (hk : k < d.secs.length) (hb : b.length = 128) :
    Calls Try.prog 70 #[.pointer (some ⟨x, 0, none⟩), .pointer (some ⟨y, 0, none⟩), .pointer (some ⟨z, 0, none⟩)] w (MidPost w a S M K (d.midst k b)) := by
  have hm := hD.wf.many
  have c1 := hD.cells.2.1
  have hxl := block_lt_of_cell hx; have hyl := block_lt_of_cell hy; have hzl := block_lt_of_cell hz; have hal := hD.lt.1
  have al : ∀ (o : Obj) (p : Addr) (u : Value), p.block < w.heap.size → w.cell? p = some u → (w.alloc o).cell? p = some u := fun o p u hp h => (World.cell?_alloc_lt w o p hp).trans h
  have hxa := fun o => al o _ _ hxl hx; have hya := fun o => al o _ _ hyl hy; have c1a := fun o => al o _ _ hal c1
  rcases hD.lookup true k (by omega) with ⟨hnone, _⟩ | ⟨bb, hsome, _⟩
  · have hl : ∀ W : World, W.heap = w.heap ∨ (∃ o, W.heap = (w.alloc o).heap) → (Instr.lookup 59 (.map (some M)) (.int .i64 k) true).run Try.prog W = .ok (.tuple #[.agg (u8vs zeros).toArray, .bool false]) W := by
      intro W hW
      rcases (loads_of hD hW).lookup true k (by omega) with ⟨_, h⟩ | ⟨_, h, _⟩
      · exact h
      · rw [hnone] at h; cases h
    have hl1 := hl w.drew (.inl rfl)
    have hl2 := fun o => hl (w.alloc o).drew (.inr ⟨o, rfl⟩)
    have hvl : (u8vs zeros).length = 128 := by simp [u8vs, length_zeros]
    obtain ⟨W1, hst, hk1⟩ := forgets w zeros hvl
    have hD1 := hD.kept hk1 (by simp) (by simp) (by simp) (by simp)
    have hx1 := (hk1.cell (p := ⟨x, 0, none⟩) hxl (by simp)).trans hx
    have hy1 := (hk1.cell (p := ⟨y, 0, none⟩) hyl (by simp)).trans hy
    have hz1 := (hk1.cell (p := ⟨z, 0, none⟩) hzl (by simp)).trans hz
    obtain ⟨bk, hbk⟩ : ∃ bk, d.secs[k]? = some bk := ⟨_, List.getElem?_eq_getElem hk⟩
    have hbkl := hD.wf.size bk (List.mem_of_getElem? hbk)
    obtain ⟨es, clk, hmm, hup, hes, hes2⟩ := hD1.drew.update k (by omega) hnone bk
    have hk2 : Kept [M] W1 (setBlock W1.drew M (.map (es.push { key := i64v k, val := blkV bk, born := clk }) (clk + 1))) := (Kept.drew _ _).trans (Kept.setBlock hmm (by simp) _)
    have hmid : ({ d with sure := d.sure ++ [(k, bk)] } : Dev).Wf := by
      have h0 := hD.wf.midst hk hbkl
      simp only [Dev.midst, hnone, Option.isSome_none, hbk, Option.getD_some] at h0
      exact { h0 with
        one := by simpa using h0.one
        many := by simpa using h0.many
        size := hD.wf.size
        keyIn := by simpa using h0.keyIn }
    have hD2 := hD1.drew.putSure hmid hes hes2
    generalize setBlock W1.drew M (.map (es.push { key := i64v k, val := blkV bk, born := clk }) (clk + 1)) = W2 at hup hk2 hD2
    have hkw : Kept [M] w W2 := (hk1.mono (by simp)).trans hk2
    have hMs : ∀ j, j ∉ [S, M] → j ∉ [M] := fun j h1 h2 => h1 (by simp at h2; simp [h2])
    have hx2 := (hkw.cell (p := ⟨x, 0, none⟩) hxl (hMs _ hxs)).trans hx
    have hy2 := (hkw.cell (p := ⟨y, 0, none⟩) hyl (hMs _ hys)).trans hy
    have hz2 := (hkw.cell (p := ⟨z, 0, none⟩) hzl (hMs _ hzs)).trans hz
    have hs2 : SlAt W2 A 128 c (u8vs b) := hs.kept hkw (fun p hp => hMs _ (hAs p hp))
    have c1' := hD1.cells.2.1
    have c0' := hD1.cells.1
    have e0 := hD2.cells.1
    have hr1 : W1.drew.rangeAt S (k * 128) (u8vs bk) := flat_range hD1.secs hD1.wf.size hbk
    have hdm : d.midst k b = { { d with sure := d.sure ++ [(k, bk)] } with secs := d.secs.set k b } := by
      simp [Dev.midst, hnone, hbk]
    have hD3 := hD2.drew.put (k := k) hk hb
    have hk3 : Kept [S, M] w (W2.drew.setCells S (k * 128) (u8vs b)) := ((hkw.mono (by simp)).trans (Kept.drew _ _)).trans ((setCells_kept S (u8vs b) (k * 128) _).mono (by simp))
    have ht3 : W2.drew.there S (k * 128) 128 := flat_there hD2.secs hD2.wf.size hk
    have hi1 : (0 : Int) ≤ k ∧ (k : Int) < (d.secs.length : Int) := by omega
    rw [hdm]
    clear hl al hD hmm hes hes2 hmid hk1 hk2 hkw hMs hdm hbk hD2
    have hr2 : ∀ p, A = some p → W2.drew.rangeAt p.block p.off (u8vs b) := fun p hp => by
      subst hp
      obtain ⟨b0, o0, e, _, _⟩ := hs2.cells (by omega)
      cases e
      exact hs2.range
    have HB := Lib.hid hb; have HBK := Lib.hid hbkl; clear hb hbkl
    obtain ⟨b0, o0, rfl, _, _⟩ := hs2.cells (by omega)
    have hr2 := hr2 _ rfl
    unfold blkV at hup
    have harr := fun W => array_at W ⟨b0, o0, none⟩ c
    go_enter Try.func70, Try.ntmps70
    go_wp2
    go_region
    go_wp2
    refine wp_region_still_tail 12 (by kernel_rfl) (by kernel_rfl) ?_
    simp only [List.take_succ_cons, List.take_zero, List.drop_succ_cons, List.drop_zero]
    iterate 11 still_step
    refine still_load_mid rfl 108 _ rfl S (k * 128) rfl (u8vs bk) _ hr1 Try.underlying108 rfl (by rw [size_block]; simp [u8vs, HBK.out]) ?_
    refine wpStill_nil ?_
    go_wp2
    refine wp_region_still_tail 9 (by kernel_rfl) (by kernel_rfl) ?_
    simp only [List.take_succ_cons, List.take_zero, List.drop_succ_cons, List.drop_zero]
    iterate 7 still_step
    refine still_load_mid rfl 108 _ rfl b0 o0 rfl (u8vs b) _ hr2 Try.underlying108 rfl (by rw [size_block]; simp [u8vs, HB.out]) ?_
    still_step
    refine wpStill_nil ?_
    refine wpList_store_mid rfl 108 _ _ rfl S (k * 128) (u8vs b).toArray rfl rfl (by simpa [u8vs, HB.out] using ht3) (by rw [size_block]; simp [u8vs, HB.out]) (all_oneCell_toArray (one_u8 b)) ?_
    go_wp2
    go_end0
    exact ⟨rfl, hD3, hk3⟩
  · have hl : ∀ W : World, W.heap = w.heap ∨ (∃ o, W.heap = (w.alloc o).heap) → (Instr.lookup 59 (.map (some M)) (.int .i64 k) true).run Try.prog W = .ok (.tuple #[.agg (u8vs bb).toArray, .bool true]) W := by
      intro W hW
      rcases (loads_of hD hW).lookup true k (by omega) with ⟨h, _⟩ | ⟨b2, h, h'⟩
      · rw [hsome] at h; cases h
      · rw [hsome] at h; cases h; exact h'
    have hl1 := hl w.drew (.inl rfl)
    have hl2 := fun o => hl (w.alloc o).drew (.inr ⟨o, rfl⟩)
    have hvl : (u8vs bb).length = 128 := by simp [u8vs, hD.wf.sureSize _ (Dev.look_mem hsome)]
    obtain ⟨W1, hst, hk1⟩ := forgets w bb hvl
    have hD1 := hD.kept hk1 (by simp) (by simp) (by simp) (by simp)
    have hx1 := (hk1.cell (p := ⟨x, 0, none⟩) hxl (by simp)).trans hx
    have hy1 := (hk1.cell (p := ⟨y, 0, none⟩) hyl (by simp)).trans hy
    have hz1 := (hk1.cell (p := ⟨z, 0, none⟩) hzl (by simp)).trans hz
    have hs2 : SlAt W1 A 128 c (u8vs b) := hs.kept hk1 (by simp)
    have e0 := hD1.cells.1
    have hdm : d.midst k b = { d with secs := d.secs.set k b } := by
      simp [Dev.midst, hsome]
    have hD3 := hD1.drew.put (k := k) hk hb
    have hk3 : Kept [S, M] w (W1.drew.setCells S (k * 128) (u8vs b)) := ((hk1.mono (by simp)).trans (Kept.drew _ _)).trans ((setCells_kept S (u8vs b) (k * 128) _).mono (by simp))
    have ht3 : W1.drew.there S (k * 128) 128 := flat_there hD1.secs hD1.wf.size hk
    have hi1 : (0 : Int) ≤ k ∧ (k : Int) < (d.secs.length : Int) := by omega
    rw [hdm]
    have hr2 : ∀ p, A = some p → W1.drew.rangeAt p.block p.off (u8vs b) := fun p hp => by
      subst hp
      obtain ⟨b0, o0, e, _, _⟩ := hs2.cells (by omega)
      cases e
      exact hs2.range
    clear hl al hD hk1 hdm hD1 hsome
    have HB := Lib.hid hb; clear hb
    obtain ⟨b0, o0, rfl, _, _⟩ := hs2.cells (by omega)
    have hr2 := hr2 _ rfl
    have harr := fun W => array_at W ⟨b0, o0, none⟩ c
    go_enter Try.func70, Try.ntmps70
    go_wp2
    go_region
    go_wp2
    refine wp_region_still_tail 9 (by kernel_rfl) (by kernel_rfl) ?_
    simp only [List.take_succ_cons, List.take_zero, List.drop_succ_cons, List.drop_zero]
    iterate 7 still_step
    refine still_load_mid rfl 108 _ rfl b0 o0 rfl (u8vs b) _ hr2 Try.underlying108 rfl (by rw [size_block]; simp [u8vs, HB.out]) ?_
    still_step
    refine wpStill_nil ?_
    refine wpList_store_mid rfl 108 _ _ rfl S (k * 128) (u8vs b).toArray rfl rfl (by simpa [u8vs, HB.out] using ht3) (by rw [size_block]; simp [u8vs, HB.out]) (all_oneCell_toArray (one_u8 b)) ?_
    go_wp2
    go_end0
    exact ⟨rfl, hD3, hk3⟩
end Go.Proofs.Ytbnflbkaogpnbaa

/- The power goes: plain lemmas. -/
namespace Go.Proofs.Ytbnflbkaogpnbaa
open Go.RowKit Go.Maps

theorem Dev.backs_append (keep : List Int) (f : Nat → Blk) (i : Nat) : ∀ (l : List Nat) (k : Nat) (s : List Blk),
    Dev.backs keep f k (l ++ [i]) s = if Dev.lost keep (k + l.length) then (Dev.backs keep f k l s).set i (f i) else Dev.backs keep f k l s := by
  intro l
  induction l with
  | nil => intro k s; simp [Dev.backs]
  | cons x r ih =>
    intro k s
    simp only [List.cons_append, Dev.backs]
    rw [ih]
    simp only [List.length_cons]
    have e : k + 1 + r.length = k + (r.length + 1) := by omega
    rw [e]

/-- The cell of a slice of ints at i, where there is one. -/
theorem SlAt.int_at {w : World} {A : Option Addr} {n c : Nat} {xs : List Int} (h : SlAt w A n c (xs.map i64v)) {k : Nat} (hk : k < n) :
    ∃ b o, A = some ⟨b, o, none⟩ ∧ b < w.heap.size ∧ w.cell? ⟨b, o + k, none⟩ = some (.int .i64 (xs[k]?.getD 0)) := by
  obtain ⟨b, o, hA, hb, hc⟩ := h.cells (by omega)
  have hl := h.len
  simp only [List.length_map] at hl
  refine ⟨b, o, hA, hb, ?_⟩
  rw [hc k hk, List.getElem?_map, List.getElem?_eq_getElem (by omega)]
  rfl

/-- The device in the midst of a loss. -/
def Dev.part (d : Dev) (keep : List Int) (j : Nat) : Dev := { d with secs := Dev.backs keep (fun i => (Dev.look d.sure i).getD []) 0 (d.keys.take j) d.secs }

theorem Dev.key_lt {d : Dev} (h : d.Wf) {i : Nat} (hi : i ∈ d.keys) : i < d.secs.length := by
  obtain ⟨p, hp, rfl⟩ := List.mem_map.1 (Dev.mem_keys.1 hi)
  exact h.keyIn p hp

theorem Dev.part_succ {d : Dev} {keep : List Int} {j : Nat} (hj : j < d.keys.length) :
    d.part keep (j + 1) = if Dev.lost keep j then { d.part keep j with secs := (d.part keep j).secs.set d.keys[j] ((Dev.look d.sure d.keys[j]).getD []) } else d.part keep j := by
  unfold Dev.part
  rw [List.take_succ_eq_append_getElem hj, Dev.backs_append]
  have e : 0 + (d.keys.take j).length = j := by simp; omega
  rw [e]
  split <;> rfl

theorem Dev.wf_part {d : Dev} (h : d.Wf) (keep : List Int) (j : Nat) : (d.part keep j).Wf := { h with
  one := by simpa [Dev.part, Dev.length_backs] using h.one
  many := by simpa [Dev.part, Dev.length_backs] using h.many
  size := by
    refine Dev.size_backs _ _ _ _ _ h.size ?_
    intro i hi
    obtain ⟨b, hb⟩ := Dev.look_of_key (Dev.mem_keys.1 (List.mem_of_mem_take hi))
    rw [hb]
    exact h.sureSize _ (Dev.look_mem hb)
  keyIn := by simpa [Dev.part, Dev.length_backs] using h.keyIn }
end Go.Proofs.Ytbnflbkaogpnbaa

/- The power goes: the walk. -/
namespace Go.Proofs.Ytbnflbkaogpnbaa
open Go.RowKit Go.Maps
open Go.ChangeMaps (setBlock heap_setBlock_same heap_setBlock_other)

/-- Between two rounds of a loss. -/
structure GoneAt (w1 : World) (a S M : Nat) (K : Option Nat) (d : Dev) (keep : List Int) (j : Nat) (wr : World) : Prop where
  dev : DevAt wr a S M K (d.part keep j)
  kept : Kept [S] w1 wr

theorem GoneAt.skip {w1 wr : World} {a S M : Nat} {K : Option Nat} {d : Dev} {keep : List Int} {j : Nat} (h : GoneAt w1 a S M K d keep j wr) (hj : j < d.keys.length) (hl : Dev.lost keep j = false) : GoneAt w1 a S M K d keep (j + 1) wr :=
  ⟨by rw [Dev.part_succ hj, hl]; exact h.dev, h.kept⟩

theorem GoneAt.back {w1 wr : World} {a S M : Nat} {K : Option Nat} {d : Dev} {keep : List Int} {j : Nat} (h : GoneAt w1 a S M K d keep j wr) (hj : j < d.keys.length) (hl : Dev.lost keep j = true) {b : Blk} (hb : Dev.look d.sure d.keys[j] = some b)
    (hwf : d.Wf) : GoneAt w1 a S M K d keep (j + 1) (wr.drew.setCells S (d.keys[j] * 128) (u8vs b)) := by
  refine ⟨?_, (h.kept.trans (Kept.drew _ _)).trans (setCells_kept S (u8vs b) _ _)⟩
  have hk : d.keys[j] < (d.part keep j).secs.length := by
    have := Dev.key_lt hwf (List.getElem_mem hj)
    simpa [Dev.part, Dev.length_backs] using this
  have h1 := h.dev.drew.put hk (hwf.sureSize _ (Dev.look_mem hb))
  rw [Dev.part_succ hj, hl, hb]
  exact h1

set_option maxHeartbeats 1000000 in
set_option maxRecDepth 100000 in
theorem gone_any {w : World} {a S M : Nat} {K : Option Nat} {d : Dev} (hD : DevAt w a S M K d) (A : Option Addr) (n c : Nat) (keep : List Int) (hx : SlAt w A n c (keep.map i64v)) (hA : ∀ p, A = some p → 0 < n → p.block ≠ S) :
    Calls Try.prog 72 #[.pointer (some ⟨a, 0, none⟩), .slice A n c] w (DevPost w a S M K (d.gone keep, 100)) := by
  have hcs := hD.cells
  have hal := hD.lt
  have hne := hD.ne
  have c1 := hcs.2.1
  go_enter Try.func72, Try.ntmps72
  go_wp2_with (first | (go_at_call 105; refine (keys_any _ _).mono ?_; rintro e w' ⟨rfl, rfl⟩) | (go_at_call 104; refine (sortedKeys_any hD).mono ?_; rintro e w1 ⟨As, cs, rfl, hown, hbel⟩))
  have hk1 : Kept [] w w1 := (Kept.alloc [] w _).trans (Kept.of_below hbel)
  have hD1 := hD.kept hk1 (by simp) (by simp) (by simp) (by simp)
  have hx1 := hx.kept hk1 (by simp)
  have hs1 : SlAt w1 As d.keys.length cs ((d.keys.map fun i : Nat => (i : Int)).map i64v) ∧ ∀ p, As = some p → p.block ≠ S := by
    obtain ⟨A0, c0, e, h1, h2⟩ := SlAt.of_own hown
    simp only [Value.slice.injEq, true_and] at e
    obtain ⟨rfl, rfl⟩ := e
    refine ⟨by rw [List.map_map]; exact h1, fun p hp => ?_⟩
    have h3 := (h2 p hp).2
    have h4 := hal.2.1
    simp only [World.size_alloc] at h3
    omega
  obtain ⟨hs1, hsS⟩ := hs1
  clear hown hbel hcs
  have hwf := hD.wf
  have hgo : GoneAt w1 a S M K d keep 0 w1 := ⟨by simpa [Dev.part, Dev.backs] using hD1, Kept.refl _ _⟩
  clear hx hD1
  go_loopw [14] (fun i wr => ∃ j : Nat, j ≤ d.keys.length ∧ i = .int .i64 j ∧ GoneAt w1 a S M K d keep j wr) (fun i _ => d.keys.length - (intOf i).toNat)
  case atStart => exact ⟨0, Nat.zero_le _, rfl, hgo⟩
  case round =>
    obtain ⟨j, hj, rfl, hg⟩ := hrel
    have hmx := hs1.max; have hmn := hs1.le
    unfold maxLen at hmx
    by_cases hlt : j < d.keys.length
    · have hsr := hs1.kept hg.kept (fun p hp => by simpa using hsS p hp)
      have hxr := hx1.keptP hg.kept (fun p hp hn => by simpa using hA p hp hn)
      obtain ⟨bs, os, hAs, _, hkc⟩ := hsr.int_at hlt
      subst hAs
      have hkc' : wr.cell? ⟨bs, os + j, none⟩ = some (.int .i64 (d.keys[j] : Nat)) := by
        rw [hkc]; simp [hlt]
      have hkl : d.keys[j] < (d.part keep j).secs.length := by
        have := Dev.key_lt hwf (List.getElem_mem hlt)
        simpa [Dev.part, Dev.length_backs] using this
      have hkm := hg.dev.wf.many
      obtain ⟨b, hb⟩ := Dev.look_of_key (Dev.mem_keys.1 (List.getElem_mem hlt))
      have hbl := hwf.sureSize _ (Dev.look_mem hb)
      have hj2 : (j : Int) < (d.keys.length : Int) := by omega
      have e0 := hg.dev.cells.1
      have e1 := hg.dev.cells.2.1
      have hback := fun hl => hg.back hlt hl hb hwf
      have hskip := hg.skip hlt
      have hlk : (Instr.lookup 59 (.map (some M)) (.int .i64 (d.keys[j] : Nat)) false).run Try.prog wr.drew = .ok (.agg (u8vs b).toArray) wr.drew := by
        rcases hg.dev.drew.lookup false d.keys[j] (by omega) with ⟨h, _⟩ | ⟨b2, h, h'⟩
        · have : Dev.look d.sure d.keys[j] = none := h
          rw [hb] at this; cases this
        · have : Dev.look d.sure d.keys[j] = some b2 := h
          rw [hb] at this; cases this; exact h'
      have ht3 : wr.drew.there S (d.keys[j] * 128) 128 := flat_there hg.dev.secs hg.dev.wf.size hkl
      have hlen : (d.part keep j).secs.length = d.secs.length := by simp [Dev.part, Dev.length_backs]
      have hkl2 : (d.keys[j] : Int) < ((d.part keep j).secs.length : Int) := by omega
      have HB := Lib.hid hbl; clear hbl hb hkc hg hlen
      generalize hq : d.keys[j] = q at *
      have HQ := Lib.hid hq; clear hq
      by_cases hnj : n ≤ j
      · have hl : Dev.lost keep j = true := by
          have hh := hxr.len
          simp only [List.length_map] at hh
          simp [Dev.lost, hh, hnj]
        have hbk := hback hl
        clear hback hskip hl
        have h3 : (n : Int) ≤ (j : Int) := by omega
        go_wp2
        refine wp_region_still_tail 12 (by kernel_rfl) (by kernel_rfl) ?_
        simp only [List.take_succ_cons, List.take_zero, List.drop_succ_cons, List.drop_zero]
        repeat still_step
        refine wpStill_nil ?_
        refine wpList_store_mid rfl 108 _ _ rfl S (q * 128) (u8vs b).toArray rfl rfl (by simpa [u8vs, HB.out] using ht3) (by rw [size_block]; simp [u8vs, HB.out]) (all_oneCell_toArray (one_u8 b)) ?_
        go_wp2
        go_roundw
        case rel => exact ⟨j + 1, by omega, by go_num, hbk⟩
        case measure => simp [intOf]; omega
      · obtain ⟨bk, ok, hAk, _, hkk⟩ := hxr.int_at (k := j) (by omega)
        subst hAk
        have h3 : ¬ (n : Int) ≤ (j : Int) := by omega
        have h4 : (j : Int) < (n : Int) := by omega
        have hxl := hxr.len
        have hxm := hxr.max; have hxn := hxr.le
        unfold maxLen at hxm
        simp only [List.length_map] at hxl
        by_cases hev : (keep[j]?.getD 0).tmod 2 = 0
        · have hl : Dev.lost keep j = true := by simp [Dev.lost, hev]
          have hbk := hback hl
          have hev2 : ((keep[j]?.getD 0).tmod 2 == 0) = true := by simp [hev]
          clear hback hskip hl hev hxl
          go_wp2
          refine wp_region_still_tail 12 (by kernel_rfl) (by kernel_rfl) ?_
          simp only [List.take_succ_cons, List.take_zero, List.drop_succ_cons, List.drop_zero]
          repeat still_step
          refine wpStill_nil ?_
          refine wpList_store_mid rfl 108 _ _ rfl S (q * 128) (u8vs b).toArray rfl rfl (by simpa [u8vs, HB.out] using ht3) (by rw [size_block]; simp [u8vs, HB.out]) (all_oneCell_toArray (one_u8 b)) ?_
          go_wp2
          go_roundw
          case rel => exact ⟨j + 1, by omega, by go_num, hbk⟩
          case measure => simp [intOf]; omega
        · have hl : Dev.lost keep j = false := by simp [Dev.lost, hev]; omega
          have hbk := hskip hl
          have hev2 : ((keep[j]?.getD 0).tmod 2 == 0) = false := by simp [hev]
          clear hback hskip hl hev hxl
          go_wp2
          go_roundw
          case rel => exact ⟨j + 1, by omega, by go_num, hbk⟩
          case measure => simp [intOf]; omega
    · obtain rfl : j = d.keys.length := by omega
      have hdp := hg.dev
      have hpt : d.part keep d.keys.length = { d with secs := (d.gone keep).secs } := by simp [Dev.part, Dev.gone]
      have hkr := hg.kept
      rw [hpt] at hdp
      obtain ⟨clk, ⟨es, hme⟩, hcl⟩ := hdp.clear
      have hwf2 : ({ ({ d with secs := (d.gone keep).secs } : Dev) with sure := [] } : Dev).Wf := { hwf.gone keep with
        fail0 := hwf.fail0
        fail1 := hwf.fail1
        till0 := hwf.till0
        till1 := hwf.till1 }
      have hD2 := hdp.putSure hwf2 (es := #[]) (clk := clk) rfl (MapKept.stamped_empty clk)
      have hk2 : Kept [M] wr (setBlock wr M (.map #[] clk)) := Kept.setBlock hme (by simp) _
      have hkw : Kept [S, M] w1 (setBlock wr M (.map #[] clk)) := (hkr.mono (by simp)).trans (hk2.mono (by simp))
      generalize setBlock wr M (.map #[] clk) = W2 at hcl hD2 hk2 hkw
      have c1r := hdp.cells.2.1
      obtain ⟨f0, f1, f2, f4, f5, f6, ff⟩ := hD2.cells
      have h3 : ¬ (d.keys.length : Int) < (d.keys.length : Int) := by omega
      clear hdp hk2 hme hs1 hx1 hg hkr f0 f1 f5
      go_wp2
      go_ret
      have hks : Kept [a] W2 (((W2.setCell ⟨a, 6, none⟩ (.bool true)).setCell ⟨a, 2, none⟩ (.int .i64 (-1))).setCell ⟨a, 4, none⟩ (.int .i64 (-1))) :=
        ((Kept.setCell (by simp) _).trans (Kept.setCell (by simp) _)).trans (Kept.setCell (by simp) _)
      refine ⟨rfl, K, hD2.rehead hks (hwf.gone keep) rfl rfl (fun kv hh => ?_) rfl, ((hk1.mono (by simp)).trans (hkw.mono (fun i hi => .inl (by simp at hi ⊢; exact .inr hi)))).trans (hks.mono (by simp)), fun _ e => .inl e⟩
      rw [heap_set (heap_set (heap_set hh 6 _) 2 _) 4 _]
      rfl
end Go.Proofs.Ytbnflbkaogpnbaa
