/- Records in memory beside a log's blocks; append of records. -/
import Derived.Test.YtbnflbkaogpnbaaI7
import Derived.Test.YtbnflbkaogpnbaaC12
import Derived.Laws.OwnMore
namespace Go.Proofs.Ytbnflbkaogpnbaa
set_option linter.unusedVariables false
open Go.RowKit

theorem BytessAt.ltA {w : World} {A : Option Addr} {n c : Nat} {ps : List Part} (h : BytessAt w A n c ps) (p : Addr) (e : A = some p) (hn : 0 < n) : p.block < w.heap.size := by
  obtain ⟨b, o, e2, hb, _⟩ := h.cells hn
  rw [e] at e2
  cases e2
  exact hb

theorem Step.refl (F : List Nat) (w : World) : Step F F w w := ⟨Kept.refl _ _, fun j hj => .inl hj⟩
theorem Step.of_kept {F : List Nat} {w w' : World} (h : Kept [] w w') : Step F F w w' := ⟨h.mono (by simp), fun j hj => .inl hj⟩
theorem Step.trans {F F' F'' : List Nat} {w w' w'' : World} (h : Step F F' w w') (k : Step F' F'' w' w'') : Step F F'' w w'' :=
  ⟨h.kept.trans' k.kept h.new, fun j hj => by
    rcases k.new j hj with e | e
    · exact h.new j e
    · exact .inr (Nat.le_trans h.kept.size e)⟩

/-- Records in memory, beside the blocks F. -/
structure LiAt (w : World) (F : List Nat) (v : Value) (l : List (List UInt8)) : Prop where
  ex : ∃ A c ps, v = .slice A l.length c ∧ BytessAt w A l.length c ps ∧ texts ps = l ∧ (∀ p, A = some p → 0 < l.length → p.block ∉ F) ∧ ∀ q ∈ ps, ∀ p, q.A = some p → 0 < q.n → p.block ∉ F

theorem LiAt.nil (w : World) (F : List Nat) : LiAt w F (.slice none 0 0) [] := ⟨none, 0, [], rfl, BytessAt.nil w, rfl, fun p e => by (cases e), by simp⟩

section
variable {w w' : World} {F F' : List Nat} {v : Value} {l : List (List UInt8)}

theorem LiAt.step (h : LiAt w F v l) (hs : Step F F' w w') : LiAt w' F' v l := by
  obtain ⟨A, c, ps, rfl, hB, ht, hA, hps⟩ := h.ex
  refine ⟨A, c, ps, rfl, hB.keptP hs.kept hA hps, ht, fun p e hn hm => ?_, fun q hq p e hn hm => ?_⟩
  · rcases hs.new _ hm with e2 | e2
    · exact hA p e hn e2
    · have := hB.ltA p e hn
      omega
  · rcases hs.new _ hm with e2 | e2
    · exact hps q hq p e hn e2
    · have := (hB.all q hq).1.lt' hn e
      omega

theorem LiAt.next (h : LiAt w F v l) (hk : Kept [] w w') : LiAt w' F v l := h.step ⟨hk.mono (by simp), fun j hj => .inl hj⟩

theorem LiAt.mono (h : LiAt w F v l) (hF : ∀ j ∈ F', j ∈ F) : LiAt w F' v l := by
  obtain ⟨A, c, ps, rfl, hB, ht, hA, hps⟩ := h.ex
  exact ⟨A, c, ps, rfl, hB, ht, fun p e hn hm => hA p e hn (hF _ hm), fun q hq p e hn hm => hps q hq p e hn (hF _ hm)⟩

theorem LiAt.row {base : Nat} {n : Nat} {ps : List Part} (hr : RowIn base w 34 F v n (ps.map Part.val)) (hp : ∀ p ∈ ps, p.At w) (hps : ∀ q ∈ ps, ∀ p, q.A = some p → 0 < q.n → p.block ∉ F) : LiAt w F v (texts ps) := by
  obtain ⟨A, c, rfl, hB⟩ := hr.parts hp
  have hn : n = (texts ps).length := by rw [← hB.len]; simp [texts]
  subst hn
  exact ⟨A, c, ps, rfl, hB, rfl, fun p e _ => hr.ne p.block (by simp [Value.ownBlock, e]), hps⟩
end

theorem run_append_none_cap {P : Program} {w : World} (base : Nat) (t ty e : TypeId) (i : TypeInfo) (size : Nat) (ht : P.underlying t = some (.slice e)) (hi : P.info? e = some i)
    (v : Value) (n c : Nat) (xs : List Value) (hown : w.ownsRow base e size v n xs) :
    (Builtin.append_ #[t, t] ty #[v, .slice none 0 c]).run P w = .ok v w := by
  rcases hown.2 with ⟨rfl, rfl⟩ | ⟨g, cap, cur, rfl, _, _, hnc, _⟩
  · simp [Builtin.append_, run_underlying ht, sizeOf, typeInfo, hi, Builtin.lenOf, Builtin.firstCells]
  · simp [Builtin.append_, run_underlying ht, sizeOf, typeInfo, hi, Builtin.lenOf, Builtin.firstCells, hnc, storeCells]

/-- append of records onto a row of one's own. -/
theorem run_append_bytess {P : Program} {w : World} (t ty : TypeId) (base : Nat) (e : TypeId) (i : TypeInfo) (z : Value) (bytes : Nat) (ht : P.underlying t = some (.slice e)) (hi : P.info? e = some i) (hz : i.zero = some z)
    (hsize : i.size = 1) (hby : i.bytes = bytes) (hzs : z.cells.size = 1) (v : Value) (n : Nat) (xs : List Value) (hown : w.ownsRow base e 1 v n xs) (A : Option Addr) (m c : Nat) (ps : List Part) (hB : BytessAt w A m c ps)
    (h63 : n + m ≤ maxLen) (hbytes : (n + m) * bytes ≤ 140737488355328) (hbase : base ≤ w.heap.size) :
    ∃ v' w', (Builtin.append_ #[t, t] ty #[v, .slice A m c]).run P w = .ok v' w' ∧ w'.ownsRow base e 1 v' (n + m) (xs ++ ps.map Part.val) ∧ w.grownBy w' v.ownBlock ∧ (v'.ownBlock = v.ownBlock ∨ v'.ownBlock = some w.heap.size) := by
  cases A with
  | none =>
    obtain rfl : m = 0 := by
      rcases Nat.eq_zero_or_pos m with e | e
      · exact e
      · obtain ⟨b, o, e2, _⟩ := hB.cells e
        cases e2
    obtain rfl : ps = [] := List.eq_nil_of_length_eq_zero hB.len
    exact ⟨v, w, run_append_none_cap base t ty e i 1 ht hi v n c xs hown, by simpa using hown, ⟨rfl, rfl, rfl, Nat.le_refl _, fun _ _ _ => rfl⟩, .inl rfl⟩
  | some ad =>
    obtain ⟨v', w', h1, h2, h3, _, h5⟩ := run_append_own_at (P := P) w base t ty e i z 1 bytes ht hi hz hsize hby hzs (by omega) v n xs hown ad m c (ps.map Part.val) (by simp [hB.len]) (fun j u hj => by
      rw [List.getElem?_map, Option.map_eq_some_iff] at hj
      obtain ⟨p, hp, rfl⟩ := hj
      have hjl := (List.getElem?_eq_some_iff.1 hp).1
      obtain ⟨b, o, e2, _, hc⟩ := hB.cells (by rw [← hB.len]; omega)
      cases e2
      rw [add_block]
      exact hc j p hp) (partv_one ps) h63 hbytes hbase
    exact ⟨v', w', h1, h2, h3, h5⟩

theorem wpList_append_bytess {P : Program} {w : World} {ops : Array Oper} {rest : List Oper} {o : Oper} {a : Act} {Q : Exit → Act → World → Prop} (hgd : o.guard = none) (s x : Operand) (t : TypeId)
    (ho : o.op = .call { callee := .builtin .append, args := #[s, x], argTypes := #[t, t] })
    (base : Nat) (e : TypeId) (i : TypeInfo) (z : Value) (bytes : Nat) (ht : P.underlying t = some (.slice e)) (hi : P.info? e = some i) (hz : i.zero = some z)
    (hsize : i.size = 1) (hby : i.bytes = bytes) (hzs : z.cells.size = 1) (v : Value) (n : Nat) (xs : List Value) (hs : a.eval s = v) (hown : w.ownsRow base e 1 v n xs) (A : Option Addr) (m c : Nat) (ps : List Part) (hx : a.eval x = .slice A m c) (hB : BytessAt w A m c ps)
    (h63 : n + m ≤ maxLen) (hbytes : (n + m) * bytes ≤ 140737488355328) (hbase : base ≤ w.heap.size)
    (h : ∀ v' w', w'.ownsRow base e 1 v' (n + m) (xs ++ ps.map Part.val) → w.grownBy w' v.ownBlock → (v'.ownBlock = v.ownBlock ∨ v'.ownBlock = some w.heap.size) → wpList P ops Q rest (a.put o.dst v') w') : wpList P ops Q (o :: rest) a w := by
  refine wpList_plain hgd fun K hK => ?_
  obtain ⟨v', w', hr, h2, h3, h4⟩ := run_append_bytess (P := P) t o.type base e i z bytes ht hi hz hsize hby hzs v n xs hown A m c ps hB h63 hbytes hbase
  unfold Oper.wp execOp
  simp only [ho, resolve, invoke, builtin, Sem.run_bind, Sem.run_pure, Result.andThen_ok, List.map_toArray, List.map_cons, List.map_nil, hs, hx, hr]
  exact hK _ _ (h v' w' h2 h3 h4)

/-- A row of one's own that was appended to, beside F; the world but for that row. -/
theorem RowIn.grown {base : Nat} {w w' : World} {t : TypeId} {F : List Nat} {v v' : Value} {n n' : Nat} {xs ys : List Value} (h : RowIn base w t F v n xs) (hF : ∀ j ∈ F, j < w.heap.size) (hown : w'.ownsRow base t 1 v' n' ys) (hg : w.grownBy w' v.ownBlock) (hat : v'.ownBlock = v.ownBlock ∨ v'.ownBlock = some w.heap.size) :
    RowIn base w' t F v' n' ys ∧ Kept v.ownBlock.toList w w' :=
  ⟨⟨hown, fun k e hm => by
    rcases hat with h1 | h1
    · exact h.ne k (h1.symm.trans e) hm
    · have := hF _ hm
      rw [h1] at e
      cases e
      omega⟩, Kept.grown (F := v.ownBlock.toList) hg (fun i e => by rw [e]; simp)⟩
end Go.Proofs.Ytbnflbkaogpnbaa
