/- A sum's row, and a record's bytes. -/
import Derived.Test.YtbnflbkaogpnbaaU1
import Derived.Deep.AppendLies
import Derived.Laws.AppendOwnNone
namespace Go.Proofs.Ytbnflbkaogpnbaa
open Go.RowKit

def rowUpto (s k : Nat) : Array Value := ((List.range 4).map fun j => u8v (if j < k then UInt8.ofNat (s / 2 ^ (8 * j)) else 0)).toArray

theorem row_start (s : Nat) : madeCells #[.int .u8 0] 4 = rowUpto s 0 := by
  apply Array.ext'
  rw [toList_madeCells_one]
  simp [rowUpto, u8v, List.range_succ]

theorem row_set {w : World} {b s k : Nat} (hh : w.heap[b]? = some (.cells (rowUpto s k) 5 (0, 0))) (hk : k < 4) :
    (w.setCell ⟨b, k, none⟩ (.int .u8 ((s : Int) / 2 ^ (8 * k) % 256))).heap[b]? = some (.cells (rowUpto s (k + 1)) 5 (0, 0)) := by
  rw [heap_set hh]
  have e : (Value.int .u8 ((s : Int) / 2 ^ (8 * k) % 256)) = u8v (UInt8.ofNat (s / 2 ^ (8 * k))) := by
    unfold u8v
    rw [UInt8.toNat_ofNat']
    congr 1
  rw [e]
  congr 2
  apply Array.ext_getElem?
  intro j
  rw [Array.getElem?_setIfInBounds]
  by_cases hj : j < 4
  · simp only [rowUpto, List.getElem?_toArray, List.getElem?_map, List.getElem?_range hj, List.size_toArray, List.length_map, List.length_range, Option.map_some, hk, if_true]
    by_cases e : k = j
    · subst e
      simp
    · rw [if_neg e]
      have : (j < k) = (j < k + 1) := by apply propext; omega
      simp only [this]
  · simp only [rowUpto, List.getElem?_toArray, List.getElem?_map, List.getElem?_eq_none (show (List.range 4).length ≤ j by simp; omega), Option.map_none]
    rw [if_neg (by omega)]

def RowRel (w : World) (s : Nat) (i : Value) (wr : World) : Prop :=
  ∃ k : Nat, k ≤ 4 ∧ i = .int .i64 k ∧ wr.heap[w.heap.size]? = some (.cells (rowUpto s k) 5 (0, 0)) ∧ Kept [] w wr

set_option maxHeartbeats 1000000 in
set_option maxRecDepth 100000 in
theorem row_any (w : World) (s : Nat) : Calls Try.prog 112 #[.int .u32 s] w (ClonePost w 5 4 (u8vs (rowOf s))) := by
  obtain ⟨j0, hj0, ju0, ju1, ju2⟩ := info_parts info_u8
  have hmk := fun wx : World => run_make (P := Try.prog) wx 34 5 j0 _ Try.underlying34 hj0 ju0 .i64 .i64 4 4 (by omega) (Int.le_refl _) (by rw [ju2]; omega) (by omega)
  simp only [ju1] at hmk
  go_enter Try.func112, Try.ntmps112
  go_wp2_with fail
  go_loopw [8] (fun i wr => RowRel w s i wr) (fun i _ => 4 - (intOf i).toNat)
  case atStart => exact ⟨0, by omega, rfl, by rw [heap_alloc_new, row_start], Kept.alloc [] _ _⟩
  case round =>
    obtain ⟨k, hk, rfl, hh, hkp⟩ := hrel
    by_cases hlt : k < 4
    · have i1 : (k : Int) < 4 := by omega
      have hc : wr.cell? ⟨w.heap.size, k, none⟩ = some (u8v 0) := by
        rw [blk_cell hh, rowUpto, List.getElem?_toArray, List.getElem?_map, List.getElem?_range hlt]; simp
      have hf : wr.frozen? ⟨w.heap.size, k, none⟩ = false := blk_frozen hh k
      go_wp2_with fail
      go_roundw
      case rel => exact ⟨k + 1, by omega, by go_num, row_set hh hlt, hkp.trans' (Kept.setCell (F := [w.heap.size]) (by simp) _) (by simp)⟩
      case measure => simp [intOf]; omega
    · have i1 : ¬ (k : Int) < 4 := by omega
      obtain rfl : k = 4 := by omega
      go_wp2_with fail
      go_ret
      refine ClonePost.mk ⟨by simp [u8vs, rowOf], .inr ⟨w.heap.size, 4, _, rfl, Nat.le_refl _, hh, Nat.le_refl _, by unfold maxLen; omega, by simp [rowUpto], ?_⟩⟩ (hkp.below (Nat.le_refl _) (by simp))
      simp [rowUpto, u8vs, rowOf, u8v, List.range_succ]

/-- A row of bytes to which are appended m more. -/
theorem byte_news {w : World} {b o n c : Nat} {xs : List UInt8} (h : SlAt w (some ⟨b, o, none⟩) n c (u8vs xs)) : ∀ j u, (u8vs xs)[j]? = some u → w.cell? ((⟨b, o, none⟩ : Addr).add j) = some u := fun j u hj => by
  have hl := (List.getElem?_eq_some_iff.1 hj).1
  rw [h.len] at hl
  obtain ⟨b2, o2, e, _, hc⟩ := h.cells (by omega)
  cases e
  rw [add_block, hc j hl, hj]

theorem one_u8s (xs : List UInt8) : ∀ u ∈ u8vs xs, u.oneCell' = true := fun u hu => by
  obtain ⟨c, _, rfl⟩ := List.mem_map.1 hu
  rfl

theorem row_kept {w w' : World} {base : Nat} {t : TypeId} {sz : Nat} {v : Value} {n : Nat} {xs : List Value} {F : List Nat} (h : w.ownsRow base t sz v n xs) (hk : Kept F w w') (hF : ∀ j, v.ownBlock = some j → j ∉ F) : w'.ownsRow base t sz v n xs := by
  obtain ⟨h1, h2⟩ := h
  refine ⟨h1, ?_⟩
  rcases h2 with h2 | ⟨g, cap, cur, rfl, hb, hg, h3⟩
  · exact .inl h2
  · exact .inr ⟨g, cap, cur, rfl, hb, (hk.block g (World.lt_of_heap hg) (hF g rfl)).trans hg, h3⟩

/-- append of bytes, to a row that is one's own. -/
theorem wpList_append_u8 {ops : Array Oper} {rest : List Oper} {o : Oper} {a : Act} {w : World} {Q : Exit → Act → World → Prop} (hgd : o.guard = none) (s x : Operand)
    (ho : o.op = .call { callee := .builtin .append, args := #[s, x], argTypes := #[34, 34] }) (base : Nat) (v : Value) (n : Nat) (xs : List UInt8) (hs : a.eval s = v) (hown : w.ownsRow base 5 1 v n (u8vs xs))
    (A : Option Addr) (m c : Nat) (ys : List UInt8) (hx : a.eval x = .slice A m c) (hy : SlAt w A m c (u8vs ys)) (hA : A = none → c = 0) (h63 : n + m ≤ 140737488355328) (hbase : base ≤ w.heap.size)
    (h : ∀ A' c' w', w'.ownsRow base 5 1 (.slice A' (n + m) c') (n + m) (u8vs (xs ++ ys)) → w.grownBy w' v.ownBlock → (A' = none → c' = 0) → wpList Try.prog ops Q rest (a.put o.dst (.slice A' (n + m) c')) w') :
    wpList Try.prog ops Q (o :: rest) a w := by
  obtain ⟨j0, hj0, ju0, ju1, ju2⟩ := info_parts info_u8
  have happ : u8vs (xs ++ ys) = u8vs xs ++ u8vs ys := by simp [u8vs]
  have key : ∀ v' w', w'.ownsRow base 5 1 v' (n + m) (u8vs (xs ++ ys)) → w.grownBy w' v.ownBlock → wpList Try.prog ops Q rest (a.put o.dst v') w' := fun v' w' h1 h2 => by
    obtain ⟨A', c', rfl, hs', hb'⟩ := SlAt.of_own h1
    refine h A' c' w' h1 h2 (fun e => ?_)
    subst e
    rcases h1.2 with ⟨e, _⟩ | ⟨g, cap, cur, e, _⟩
    · injection e
    · cases e
  cases A with
  | none =>
    have hc := hA rfl
    subst hc
    have hm : m = 0 := by have := hy.le; omega
    subst hm
    have hye : ys = [] := by have := hy.len; simpa [u8vs] using this
    subst hye
    refine wpList_append_own_none hgd s x 34 ho base 5 j0 1 Try.underlying34 hj0 v n (u8vs xs) hs hown hx ?_
    exact key v w (by simpa using hown) ⟨rfl, rfl, rfl, Nat.le_refl _, fun _ _ _ => rfl⟩
  | some ad =>
    refine wpList_append_own _ hgd s x 34 ho base 5 j0 _ 1 1 Try.underlying34 hj0 ju0 ju1 ju2 rfl (by decide) v n (u8vs xs) hs hown ad m c (u8vs ys) hx (by have := hy.len; simpa using this) hy.news (one_u8s ys) (by unfold maxLen; omega) (by omega) hbase ?_
    intro v' w' h1 h2 _
    exact key v' w' (by rw [happ]; exact h1) h2

set_option maxHeartbeats 1000000 in
set_option maxRecDepth 100000 in
theorem record_any (w : World) (A : Option Addr) (n c : Nat) (b : List UInt8) (hs : SlAt w A n c (u8vs b)) (hA : A = none → c = 0) (hn : n ≤ 16384) : Calls Try.prog 86 #[.slice A n c] w (ClonePost w 5 (n + 7) (u8vs (recB b))) := by
  have hbl : b.length = n := by simpa [u8vs] using hs.len
  have hnc := hs.le; have hcm := hs.max
  unfold maxLen at hcm
  have HB := Lib.hid hbl; clear hbl
  go_enter Try.func86, Try.ntmps86
  have hh0 := heap_alloc_new w (.cells #[.int .u8 ((n : Int) / 65536), .int .u8 ((n : Int) / 256), .int .u8 ((n : Int) % 256)] 5)
  have hk0 := Kept.alloc [] w (.cells #[.int .u8 ((n : Int) / 65536), .int .u8 ((n : Int) / 256), .int .u8 ((n : Int) % 256)] 5)
  have hs0 := hs.kept hk0 (by simp)
  have hown0 : (w.alloc (.cells #[.int .u8 ((n : Int) / 65536), .int .u8 ((n : Int) / 256), .int .u8 ((n : Int) % 256)] 5)).ownsRow w.heap.size 5 1 (.slice (some ⟨w.heap.size, 0, none⟩) 3 3) 3 (u8vs (headOf n)) := by
    refine ⟨rfl, .inr ⟨w.heap.size, 3, _, rfl, Nat.le_refl _, hh0, Nat.le_refl _, by unfold maxLen; omega, rfl, ?_⟩⟩
    have e1 : (n : Int) / 65536 = ((n / 65536 % 256 : Nat) : Int) := by omega
    have e2 : (n : Int) / 256 = ((n / 256 % 256 : Nat) : Int) := by omega
    have e3 : (n : Int) % 256 = ((n % 256 : Nat) : Int) := by omega
    rw [e1, e2, e3]
    rfl
  go_wp2_with (refine wpList_append_u8 rfl (.tmp 15) (.tmp 16) rfl w.heap.size _ 3 (headOf n) rfl hown0 A n c b rfl hs0 hA (by omega) (by simp) ?_; intro A1 c1 w1 hown1 hgrow1 hA1)
  obtain ⟨A1', c1', e1, hs1, hb1⟩ := SlAt.of_own hown1
  cases e1
  have hk1 : Kept [] w w1 := hk0.trans' (Kept.grown (F := [w.heap.size]) hgrow1 (fun j e => by cases e; simp)) (by simp)
  refine (of_any w1 A1 (3 + n) c1 _ hs1).mono ?_
  rintro e w2 ⟨rfl, hk2⟩
  go_wp2_with fail
  refine (row_any w2 _).mono ?_
  rintro e w3 ⟨A3, c3, rfl, hown3, hbel3⟩
  have hk3 := Kept.of_below (F := []) hbel3
  obtain ⟨hs3, hA3⟩ := ClonePost.sl hown3
  have hA30 : A3 = none → c3 = 0 := fun e => by
    subst e
    rcases hown3.2 with ⟨e, _⟩ | ⟨g, cap, cur, e, _⟩
    · injection e
    · cases e
  have hown1' := row_kept hown1 (hk2.trans hk3) (by simp)
  have hsz1 := hk1.size; have hsz2 := hk2.size; have hsz3 := hk3.size
  have hb3 : w.heap.size ≤ w3.heap.size := by omega
  clear hown0 hh0 hs hs0 hk0 hown1 hbel3
  go_wp2_with (refine wpList_append_u8 rfl (.tmp 18) (.tmp 21) rfl w.heap.size _ (3 + n) (headOf n ++ b) rfl hown1' A3 4 c3 _ rfl hs3 hA30 (by omega) hb3 ?_; intro A4 c4 w4 hown4 hgrow4 hA4)
  go_ret
  have e5 : headOf n ++ b ++ rowOf (crc (headOf n ++ b)) = recB b := by unfold recB sumd; rw [HB.out]
  rw [e5, show 3 + n + 4 = n + 7 by omega] at hown4
  show ClonePost w 5 (n + 7) (u8vs (recB b)) (.returned (.slice A4 (3 + n + 4) c4)) w4
  rw [show 3 + n + 4 = n + 7 by omega]
  refine ClonePost.mk hown4 ?_
  replace hgrow4 : w3.grownBy w4 (Value.slice A1 (3 + n) c1).ownBlock := hgrow4
  have hk4 : Kept [] w w4 := ((hk1.trans hk2).trans hk3).trans' (Kept.grown (F := (Value.slice A1 (3 + n) c1).ownBlock.toList) hgrow4 (fun j e => by rw [e]; simp)) (fun i hi => .inr (by
    simp only [Option.mem_toList] at hi
    cases A1 with
    | none => cases hi
    | some p =>
      have := (hb1 p rfl)
      rw [this.1] at hi
      cases hi
      exact this.2))
  exact hk4.below (Nat.le_refl _) (by simp)
end Go.Proofs.Ytbnflbkaogpnbaa
