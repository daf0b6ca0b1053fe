/- Texts in one: B0 M0 D0 D1 D2. -/
import Derived.OrdersHeld
import Derived.KernelRfl
import Derived.ProofKit
import Derived.Test.YtbnflbkaogpnbaaGreatProg
import Derived.WalkKit
import Derived.WalkSpells
import Derived.WalkLawsBesides
import Derived.Deep.QuietTactic
import Derived.BigQuiet
import Derived.Lib.Hide
namespace Go.Proofs.YtbnflbkaogpnbaaGreat
open Go.RowKit
theorem tk {P : Program} {md : Region.Mode} {ops : Array Oper} {Q : Exit → Act → World → Prop} {S : World → Prop} {i : Nat} {oi : Oper} {v : Value} {fuel : Nat} {listed : Array Bool} {a : Act} {w : World} (hi : ops[i]? = some oi := by simp only [List.getElem?_toArray, List.getElem?_cons_succ, List.getElem?_cons_zero]; rfl)
  (hs : Region.noSelect ops = true := by kernel_rfl) (hf : Region.free md ops listed i = true := by kernel_rfl) (hr : (Region.ready md ops listed).contains i = true := by kernel_rfl) (hQ : ∀ c a w, Q (.panic c) (a.put oi.dst v) w → Q (.panic c) a w := by exact fun _ _ _ h => h)
  (hy : YieldsIf P ops S oi v a) (hS : S w) (h : wpAnyH P md ops Q S fuel (listed.setIfInBounds i true) (a.put oi.dst v) w) : wpAnyH P md ops Q S (fuel + 1) listed a w :=
 wpAnyH_take hi hs hf hr hQ hy hS h
end Go.Proofs.YtbnflbkaogpnbaaGreat
namespace Go.Proofs.YtbnflbkaogpnbaaGreat
open Go.RowKit
/-- A slice value that reads as the cells xs in w. -/
structure SlAt (w : World) (A : Option Addr) (n c : Nat) (xs : List Value) : Prop where
 len : xs.length = n
 le : n ≤ c
 max : c ≤ maxLen
 cells : 0 < n → ∃ b o, A = some ⟨b, o, none⟩ ∧ b < w.heap.size ∧ ∀ i, i < n → w.cell? ⟨b, o + i, none⟩ = xs[i]?
/-- w' is w but for the blocks of F, and new blocks. -/
structure Kept (F : List Nat) (w w' : World) : Prop where
 os : w'.os = w.os
 tape : w'.tape = w.tape
 output : w'.output = w.output
 size : w.heap.size ≤ w'.heap.size
 block : ∀ k, k < w.heap.size → k ∉ F → w'.heap[k]? = w.heap[k]?
theorem Kept.refl (F : List Nat) (w : World) : Kept F w w := ⟨rfl, rfl, rfl, Nat.le_refl _, fun _ _ _ => rfl⟩
theorem Kept.trans {F : List Nat} {a b c : World} (h : Kept F a b) (k : Kept F b c) : Kept F a c :=
 ⟨k.os.trans h.os, k.tape.trans h.tape, k.output.trans h.output, Nat.le_trans h.size k.size, fun i hi hn => (k.block i (Nat.lt_of_lt_of_le hi h.size) hn).trans (h.block i hi hn)⟩
/-- Two steps: the second one's blocks may be new ones of the first. -/
theorem Kept.trans' {F G : List Nat} {a b c : World} (h : Kept F a b) (k : Kept G b c) (hG : ∀ i ∈ G, i ∈ F ∨ a.heap.size ≤ i) : Kept F a c :=
 ⟨k.os.trans h.os, k.tape.trans h.tape, k.output.trans h.output, Nat.le_trans h.size k.size, fun i hi hn => (k.block i (Nat.lt_of_lt_of_le hi h.size) (fun hg => by
  rcases hG i hg with h1 | h1
  ·exact hn h1
  ·omega)).trans (h.block i hi hn)⟩
theorem Kept.mono {F G : List Nat} {a b : World} (h : Kept F a b) (hs : ∀ i ∈ F, i ∈ G ∨ a.heap.size ≤ i) : Kept G a b :=
 ⟨h.os, h.tape, h.output, h.size, fun i hi hn => h.block i hi (fun hf => by
  rcases hs i hf with h1 | h1
  ·exact hn h1
  ·omega)⟩
theorem Kept.below {F : List Nat} {a b : World} {B : Nat} (h : Kept F a b) (hB : B ≤ a.heap.size) (hs : ∀ i ∈ F, B ≤ i) : Below B a b :=
 ⟨h.os, h.tape, h.output, h.size, fun i hi => h.block i (by omega) (fun hf => by have := hs i hf; omega)⟩
theorem Kept.of_below {F : List Nat} {a b : World} (h : Below a.heap.size a b) : Kept F a b := ⟨h.os, h.tape, h.output, h.size, fun i hi _ => h.block i hi⟩
theorem Kept.drewN (F : List Nat) (w : World) (n : Nat) : Kept F w (w.drewN n) := ⟨rfl, rfl, rfl, Nat.le_refl _, fun _ _ _ => rfl⟩
theorem Kept.alloc (F : List Nat) (w : World) (o : Obj) : Kept F w (w.alloc o) := Kept.of_below ((Below.refl _ w).alloc (Nat.le_refl _) o)
theorem Kept.setCell {F : List Nat} {w : World} {p : Addr} (hp : p.block ∈ F ∨ w.heap.size ≤ p.block) (u : Value) : Kept F w (w.setCell p u) :=
 ⟨rfl, rfl, rfl, by simp [World.setCell], fun k hk hn => Below.heap_setCell _ _ _ _ (fun e => by
  subst e
  rcases hp with h1 | h1
  ·exact hn h1
  ·omega)⟩
theorem Kept.grown {F : List Nat} {w w' : World} {row : Option Nat} (hg : w.grownBy w' row) (hr : ∀ k, row = some k → k ∈ F ∨ w.heap.size ≤ k) : Kept F w w' :=
 ⟨hg.os, hg.tape, hg.output, hg.size, fun k hk hn => hg.block k hk (fun e => by
  rcases hr k e.symm with h1 | h1
  ·exact hn h1
  ·omega)⟩
theorem Kept.cell {F : List Nat} {w w' : World} (h : Kept F w w') {p : Addr} (hl : p.block < w.heap.size) (hp : p.block ∉ F) : w'.cell? p = w.cell? p := World.cell?_of_block (w := w) (h.block _ hl hp)
theorem Kept.frozen {F : List Nat} {w w' : World} (h : Kept F w w') {p : Addr} (hl : p.block < w.heap.size) (hp : p.block ∉ F) : w'.frozen? p = w.frozen? p := World.frozen?_of_block (w := w) (h.block _ hl hp)
theorem SlAt.kept {w w' : World} {A : Option Addr} {n c : Nat} {xs : List Value} {F : List Nat} (h : SlAt w A n c xs) (hk : Kept F w w') (hF : ∀ a, A = some a → a.block ∉ F) : SlAt w' A n c xs :=
 ⟨h.len, h.le, h.max, fun hn => by
  obtain ⟨b, o, rfl, hb, hc⟩ := h.cells hn
  have := hF _ rfl
  exact ⟨b, o, rfl, Nat.lt_of_lt_of_le hb hk.size, fun i hi => (hk.cell (p := ⟨b, o + i, none⟩) hb this).trans (hc i hi)⟩⟩
theorem SlAt.keptP {w w' : World} {A : Option Addr} {n c : Nat} {xs : List Value} {F : List Nat} (h : SlAt w A n c xs) (hk : Kept F w w') (hF : ∀ a, A = some a → 0 < n → a.block ∉ F) : SlAt w' A n c xs :=
 ⟨h.len, h.le, h.max, fun hn => by
  obtain ⟨b, o, rfl, hb, hc⟩ := h.cells hn
  have := hF _ rfl hn
  exact ⟨b, o, rfl, Nat.lt_of_lt_of_le hb hk.size, fun i hi => (hk.cell (p := ⟨b, o + i, none⟩) hb this).trans (hc i hi)⟩⟩
theorem SlAt.nil (w : World) : SlAt w none 0 0 [] := ⟨rfl, Nat.le_refl _, by unfold maxLen; omega, fun h => by omega⟩
/-- A byte's value. -/
def u8v (b : UInt8) : Value := .int .u8 b.toNat
def i64v (n : Int) : Value := .int .i64 n
end Go.Proofs.YtbnflbkaogpnbaaGreat
namespace Go.Proofs.YtbnflbkaogpnbaaGreat
/-- A sector's bytes: 128 of them. -/
abbrev Blk := List UInt8
/-- A sector of noughts. -/
def zeros : Blk := List.replicate 128 0
theorem length_zeros : zeros.length = 128 := by simp [zeros]
structure Dev where
 secs : List Blk
 sure : List (Nat × Blk)
 fail : Int
 keep : List Int
 till : Int
 works : Int
 dead : Bool
namespace Dev
/-- What was sure of a sector that was written since. -/
def look (s : List (Nat × Blk)) (i : Nat) : Option Blk := (s.find? (·.1 == i)).map (·.2)
/-- Is the k-th of the sectors that were written lost? -/
def lost (keep : List Int) (k : Nat) : Bool := decide (keep.length ≤ k) || (keep[k]?.getD 0).tmod 2 == 0
/-- The sectors behind a loss: those of the list, from the k-th on. -/
def backs (keep : List Int) (f : Nat → Blk) : Nat → List Nat → List Blk → List Blk
 | _, [], s => s
 | k, i :: r, s => backs keep f (k + 1) r (if lost keep k then s.set i (f i) else s)
def keys (d : Dev) : List Nat := (d.sure.map (·.1)).mergeSort (· ≤ ·)
def gone (d : Dev) (keep : List Int) : Dev :=
 { d with secs := backs keep (fun i => (look d.sure i).getD []) 0 d.keys d.secs, sure := [], fail := -1, till := -1, dead := true }
def midst (d : Dev) (i : Nat) (b : Blk) : Dev :=
 { d with sure := if (look d.sure i).isSome then d.sure else d.sure ++ [(i, d.secs[i]?.getD [])], secs := d.secs.set i b }
def counted (d : Dev) : Dev := { d with works := d.works + 1, fail := max (d.fail - 1) (-1), till := max (d.till - 1) (-1) }
/-- What stands in the way of a deed at a sector. -/
def at_ (d : Dev) (i : Int) : Int := if d.dead then 100 else if i < 0 ∨ (d.secs.length : Int) ≤ i then 9 else 0
def write (d : Dev) (i : Int) (b : Blk) : Dev × Int :=
 if d.at_ i ≠ 0 then (d, d.at_ i)
 else if b.length ≠ 128 then (d, 2)
 else if d.till = 0 then (d, 101)
 else if d.fail = 0 then ((d.midst i.toNat b).gone d.keep, 100)
 else ((d.midst i.toNat b).counted, 0)
def flush (d : Dev) : Dev × Int :=
 if d.dead then (d, 100)
 else if d.till = 0 then (d, 101)
 else if d.fail = 0 then (d.gone d.keep, 100)
 else ({ d with sure := [] }.counted, 0)
def crash (d : Dev) (keep : List Int) : Dev × Int := if d.dead then (d, 100) else (d.gone keep, 0)
def failAt (d : Dev) (n : Int) (keep : List Int) : Dev × Int := if d.dead then (d, 100) else ({ d with fail := max n (-1), keep := keep }, 0)
def refuse (d : Dev) (n : Int) : Dev × Int := if d.dead then (d, 100) else ({ d with till := max n (-1) }, 0)
def boot (d : Dev) : Dev := { d with dead := false }
def new (n : Nat) : Dev := { secs := List.replicate n zeros, sure := [], fail := -1, keep := [], till := -1, works := 0, dead := false }
/-- What every device is that was made. -/
structure Wf (d : Dev) : Prop where
 one : 1 ≤ d.secs.length
 many : d.secs.length ≤ 8192
 size : ∀ b ∈ d.secs, b.length = 128
 keyIn : ∀ p ∈ d.sure, p.1 < d.secs.length
 sureSize : ∀ p ∈ d.sure, p.2.length = 128
 nodup : (d.sure.map (·.1)).Nodup
 fail0 : -1 ≤ d.fail
 fail1 : d.fail ≤ 9223372036854775807
 till0 : -1 ≤ d.till
 till1 : d.till ≤ 9223372036854775807
 works0 : 0 ≤ d.works
 keepIn : ∀ n ∈ d.keep, -9223372036854775808 ≤ n ∧ n ≤ 9223372036854775807
theorem wf_new {n : Nat} (h1 : 1 ≤ n) (h2 : n ≤ 8192) : (new n).Wf where
 one := by simpa [new] using h1
 many := by simpa [new] using h2
 size := by intro b hb; simp only [new, List.mem_replicate] at hb; rw [hb.2, length_zeros]
 keyIn := by simp [new]
 sureSize := by simp [new]
 nodup := by simp [new]
 fail0 := by simp [new]
 fail1 := by simp [new]
 till0 := by simp [new]
 till1 := by simp [new]
 works0 := by simp [new]
 keepIn := by simp [new]
theorem length_backs (keep : List Int) (f : Nat → Blk) (r : List Nat) : ∀ (k : Nat) (s : List Blk), (backs keep f k r s).length = s.length := by
 induction r with
 | nil => intro k s; rfl
 | cons i r ih => intro k s; rw [backs, ih]; split <;> simp
theorem size_backs (keep : List Int) (f : Nat → Blk) (r : List Nat) : ∀ (k : Nat) (s : List Blk), (∀ b ∈ s, b.length = 128) → (∀ i ∈ r, (f i).length = 128) → ∀ b ∈ backs keep f k r s, b.length = 128 := by
 induction r with
 | nil => intro k s hs _; exact hs
 | cons i r ih =>
  intro k s hs hf
  rw [backs]
  refine ih _ _ ?_ (fun j hj => hf j (List.mem_cons_of_mem _ hj))
  split
  ·intro b hb
   rcases List.mem_or_eq_of_mem_set hb with h | h
   ·exact hs b h
   ·rw [h]; exact hf i (List.mem_cons_self)
  ·exact hs
theorem look_mem {s : List (Nat × Blk)} {i : Nat} {b : Blk} (h : look s i = some b) : (i, b) ∈ s := by
 unfold look at h
 cases hf : s.find? (·.1 == i) with
 | none => rw [hf] at h; cases h
 | some p =>
  rw [hf] at h
  simp only [Option.map_some, Option.some.injEq] at h
  have h1 := List.mem_of_find?_eq_some hf
  have h2 := List.find?_some hf
  simp only [beq_iff_eq] at h2
  obtain ⟨p1, p2⟩ := p
  simp only at h h2
  subst h h2
  exact h1
theorem look_none {s : List (Nat × Blk)} {i : Nat} : look s i = none ↔ i ∉ s.map (·.1) := by
 unfold look
 simp only [Option.map_eq_none_iff, List.find?_eq_none, beq_iff_eq, List.mem_map, not_exists, not_and]
theorem look_of_key {s : List (Nat × Blk)} {i : Nat} (h : i ∈ s.map (·.1)) : ∃ b, look s i = some b := by
 cases hl : look s i with
 | none => exact absurd h (look_none.1 hl)
 | some b => exact ⟨b, rfl⟩
theorem mem_keys {d : Dev} {i : Nat} : i ∈ d.keys ↔ i ∈ d.sure.map (·.1) := by
 unfold keys; exact List.mem_mergeSort
theorem Wf.gone {d : Dev} (h : d.Wf) (keep : List Int) : (d.gone keep).Wf where
 one := by simpa [Dev.gone, length_backs] using h.one
 many := by simpa [Dev.gone, length_backs] using h.many
 size := by
  refine size_backs _ _ _ _ _ h.size ?_
  intro i hi
  obtain ⟨b, hb⟩ := look_of_key (mem_keys.1 hi)
  rw [hb]
  exact h.sureSize _ (look_mem hb)
 keyIn := by simp [Dev.gone]
 sureSize := by simp [Dev.gone]
 nodup := by simp [Dev.gone]
 fail0 := by simp [Dev.gone]
 fail1 := by simp [Dev.gone]
 till0 := by simp [Dev.gone]
 till1 := by simp [Dev.gone]
 works0 := h.works0
 keepIn := h.keepIn
theorem Wf.midst {d : Dev} (h : d.Wf) {i : Nat} (hi : i < d.secs.length) {b : Blk} (hb : b.length = 128) : (d.midst i b).Wf where
 one := by simpa [Dev.midst] using h.one
 many := by simpa [Dev.midst] using h.many
 size := by
  intro c hc
  rcases List.mem_or_eq_of_mem_set hc with h1 | h1
  ·exact h.size c h1
  ·rw [h1]; exact hb
 keyIn := by
  intro p hp
  simp only [Dev.midst, List.length_set] at hp ⊢
  split at hp
  ·exact h.keyIn p hp
  ·rcases List.mem_append.1 hp with h1 | h1
   ·exact h.keyIn p h1
   ·simp only [List.mem_singleton] at h1; rw [h1]; exact hi
 sureSize := by
  intro p hp
  simp only [Dev.midst] at hp
  split at hp
  ·exact h.sureSize p hp
  ·rcases List.mem_append.1 hp with h1 | h1
   ·exact h.sureSize p h1
   ·simp only [List.mem_singleton] at h1
    rw [h1, List.getElem?_eq_getElem hi]
    exact h.size _ (List.getElem_mem hi)
 nodup := by
  simp only [Dev.midst]
  split
  ·exact h.nodup
  ·rename_i hn
   rw [List.map_append, List.nodup_append]
   refine ⟨h.nodup, by simp, ?_⟩
   intro a ha c hc
   simp only [List.map_cons, List.map_nil, List.mem_singleton] at hc
   rintro rfl
   subst hc
   obtain ⟨v, hv⟩ := look_of_key ha
   rw [hv] at hn
   simp at hn
 fail0 := h.fail0
 fail1 := h.fail1
 till0 := h.till0
 till1 := h.till1
 works0 := h.works0
 keepIn := h.keepIn
theorem Wf.counted {d : Dev} (h : d.Wf) : d.counted.Wf where
 one := h.one
 many := h.many
 size := h.size
 keyIn := h.keyIn
 sureSize := h.sureSize
 nodup := h.nodup
 fail0 := by simp only [Dev.counted]; omega
 fail1 := by have := h.fail1; simp only [Dev.counted]; omega
 till0 := by simp only [Dev.counted]; omega
 till1 := by have := h.till1; simp only [Dev.counted]; omega
 works0 := by have := h.works0; simp only [Dev.counted]; omega
 keepIn := h.keepIn
theorem Wf.cleared {d : Dev} (h : d.Wf) : ({ d with sure := [] } : Dev).Wf where
 one := h.one
 many := h.many
 size := h.size
 keyIn := by simp
 sureSize := by simp
 nodup := by simp
 fail0 := h.fail0
 fail1 := h.fail1
 till0 := h.till0
 till1 := h.till1
 works0 := h.works0
 keepIn := h.keepIn
end Dev
end Go.Proofs.YtbnflbkaogpnbaaGreat
namespace Go.Proofs.YtbnflbkaogpnbaaGreat
open Go.RowKit
/-- A sector's bytes as cells. -/
def u8vs (l : List UInt8) : List Value := l.map u8v
/-- The cells of all sectors. -/
def flat (s : List Blk) : Array Value := (s.flatMap u8vs).toArray
/-- The entries of the map of what was sure. -/
def sureOf (es : Array MapEntry) : List (Value × Value) := es.toList.map fun e => (e.key, e.val)
/-- In w, at block a, is the device d; S its sectors, M its map, K the block of what is to be kept. -/
structure DevAt (w : World) (a S M : Nat) (K : Option Nat) (d : Dev) : Prop where
 wf : d.Wf
 head : ∃ kv, w.heap[a]? = some (.cells #[.slice (some ⟨S, 0, none⟩) d.secs.length d.secs.length, .map (some M), .int .i64 d.fail, kv, .int .i64 d.till, .int .i64 d.works, .bool d.dead] 44 (0, 0)) ∧
  kv.ownBlock = K ∧ w.ownsRow 0 3 1 kv d.keep.length (d.keep.map i64v)
 secs : w.heap[S]? = some (.cells (flat d.secs) 90 (0, 0))
 sure : ∃ es clk, w.heap[M]? = some (.map es clk) ∧ sureOf es = (d.sure.map fun p => (i64v p.1, .agg (u8vs p.2).toArray)) ∧ MapKept.Stamped es clk
/-- The blocks of a device. -/
def Dv (w : World) (a : Nat) (fp : List Nat) (d : Dev) : Prop := ∃ S M K, fp = a :: S :: M :: K.toList ∧ DevAt w a S M K d
theorem World.lt_of_heap {w : World} {b : Nat} {o : Obj} (h : w.heap[b]? = some o) : b < w.heap.size := (Array.getElem?_eq_some_iff.1 h).1
theorem DevAt.lt {w : World} {a S M : Nat} {K : Option Nat} {d : Dev} (h : DevAt w a S M K d) : a < w.heap.size ∧ S < w.heap.size ∧ M < w.heap.size ∧ ∀ k, K = some k → k < w.heap.size := by
 obtain ⟨kv, h1, hK, hr⟩ := h.head
 obtain ⟨es, clk, h3, _⟩ := h.sure
 exact ⟨World.lt_of_heap h1, World.lt_of_heap h.secs, World.lt_of_heap h3, fun k hk => (hr.lt k (hK.trans hk)).2⟩
theorem DevAt.kept {w w' : World} {a S M : Nat} {K : Option Nat} {d : Dev} {F : List Nat} (h : DevAt w a S M K d) (hk : Kept F w w') (ha : a ∉ F) (hS : S ∉ F) (hM : M ∉ F) (hK : ∀ k, K = some k → k ∉ F) : DevAt w' a S M K d := by
 obtain ⟨l1, l2, l3, l4⟩ := h.lt
 obtain ⟨kv, h1, h2, hr⟩ := h.head
 obtain ⟨es, clk, h3, h4⟩ := h.sure
 refine ⟨h.wf, ⟨kv, (hk.block a l1 ha).trans h1, h2, ?_⟩, (hk.block S l2 hS).trans h.secs, ⟨es, clk, (hk.block M l3 hM).trans h3, h4⟩⟩
 obtain ⟨r1, r2⟩ := hr
 refine ⟨r1, ?_⟩
 rcases r2 with r2 | ⟨g, cap, cur, rfl, hb, hg, r3⟩
 ·exact .inl r2
 ·have hgK : K = some g := by rw [← h2]; rfl
  exact .inr ⟨g, cap, cur, rfl, hb, (hk.block g (l4 g hgK) (hK g hgK)).trans hg, r3⟩
theorem Dv.kept {w w' : World} {a : Nat} {fp : List Nat} {d : Dev} {F : List Nat} (h : Dv w a fp d) (hk : Kept F w w') (hd : ∀ j ∈ fp, j ∉ F) : Dv w' a fp d := by
 obtain ⟨S, M, K, rfl, h⟩ := h
 exact ⟨S, M, K, rfl, h.kept hk (hd _ (by simp)) (hd _ (by simp)) (hd _ (by simp)) (fun k e => hd _ (by simp [e]))⟩
theorem Dv.lt {w : World} {a : Nat} {fp : List Nat} {d : Dev} (h : Dv w a fp d) : ∀ j ∈ fp, j < w.heap.size := by
 obtain ⟨S, M, K, rfl, h⟩ := h
 obtain ⟨l1, l2, l3, l4⟩ := h.lt
 intro j hj
 simp only [List.mem_cons, Option.mem_toList] at hj
 rcases hj with rfl | rfl | rfl | hj
 ·exact l1
 ·exact l2
 ·exact l3
 ·exact l4 j hj
theorem Dv.wf {w : World} {a : Nat} {fp : List Nat} {d : Dev} (h : Dv w a fp d) : d.Wf := by
 obtain ⟨S, M, K, rfl, h⟩ := h
 exact h.wf
/-- A block read whole: its cells. -/
theorem blk_cell {w : World} {b : Nat} {c : Array Value} {t : TypeId} {fz : Nat × Nat} (h : w.heap[b]? = some (.cells c t fz)) (i : Nat) : w.cell? ⟨b, i, none⟩ = c[i]? := by
 simp [World.cell?, h]
theorem blk_frozen {w : World} {b : Nat} {c : Array Value} {t : TypeId} (h : w.heap[b]? = some (.cells c t (0, 0))) (i : Nat) : w.frozen? ⟨b, i, none⟩ = false := by
 simp [World.frozen?, h]
theorem length_flat : ∀ (s : List Blk), (∀ b ∈ s, b.length = 128) → (flat s).size = s.length * 128 := by
 intro s h
 simp only [flat, List.size_toArray]
 induction s with
 | nil => rfl
 | cons b r ih =>
  rw [List.flatMap_cons, List.length_append, ih (fun c hc => h c (List.mem_cons_of_mem _ hc)), u8vs, List.length_map, h b List.mem_cons_self, List.length_cons]
  omega
theorem info_block : (Tryz.prog.info? 90).map (fun i => (i.zero, i.size, i.bytes)) = some (some (.agg (u8vs zeros).toArray), 128, 128) := by kernel_rfl
theorem made_flat (n : Nat) : madeCells (u8vs zeros).toArray (n * 128) = flat (List.replicate n zeros) := by
 apply Array.ext_getElem?
 intro j
 have hl : (u8vs zeros).length = 128 := by simp [u8vs, length_zeros]
 have hrep : ∀ m, (List.replicate m zeros).flatMap u8vs = List.replicate (m * 128) (u8v 0) := by
  intro m
  induction m with
  | zero => rfl
  | succ m ih =>
   rw [List.replicate_succ, List.flatMap_cons, ih]
   have : u8vs zeros = List.replicate 128 (u8v 0) := by simp [u8vs, zeros]
   rw [this, List.replicate_append_replicate]
   congr 1
   omega
 unfold flat
 rw [hrep]
 by_cases hj : j < n * 128
 ·simp only [madeCells, List.size_toArray, hl, Array.getElem?_map, List.getElem?_toArray, List.getElem?_replicate, hj, if_true, Array.getElem?_range, Option.map_some]
  have hm : j % 128 < (u8vs zeros).length := by rw [hl]; omega
  rw [getElem!_pos (u8vs zeros).toArray (j % 128) (by simpa using hm)]
  simp only [u8vs, zeros, List.getElem_toArray, List.getElem_map, List.getElem_replicate]
 ·simp [madeCells, hj]
/-- What New does. -/
def NewPost (w : World) (n : Nat) (e : Ending) (w' : World) : Prop :=
 ∃ a fp, e = .returned (.tuple #[.pointer (some ⟨a, 0, none⟩), .int .i64 0]) ∧ Dv w' a fp (Dev.new n) ∧ Kept [] w w' ∧ ∀ j ∈ fp, w.heap.size ≤ j
set_option maxHeartbeats 400000 in
theorem new_any (n : Nat) (w : World) (h1 : 1 ≤ n) (h2 : n ≤ 8192) :
  Calls Tryz.prog 11 #[.int .i64 n] w (NewPost w n) := by
 obtain ⟨i0, hi, hz0, hz1, hz2⟩ := info_parts info_block
 have hmk := fun wx : World => run_make (P := Tryz.prog) wx 40 90 i0 _ Tryz.underlying40 hi hz0 .i64 .i64 (n : Int) (n : Int) (by omega) (Int.le_refl _) (by rw [hz2]; omega) (by omega)
 have hmm := @run_makeMap Tryz.prog
 simp only [Int.toNat_natCast, hz1] at hmk
 have h3 : ¬ (n : Int) < 1 := by omega
 have H1 := Lib.hid h1; have H2 := Lib.hid h2
 have h4 : ¬ 8192 < (n : Int) := by omega
 clear h1 h2
 go_enter Tryz.func11, Tryz.ntmps11
 go_wp2
 go_ret2
 refine ⟨w.heap.size + 1 + 1, [w.heap.size + 1 + 1, w.heap.size, w.heap.size + 1], rfl, ⟨w.heap.size, w.heap.size + 1, .none, rfl, ?_⟩, (((Kept.alloc [] w _).trans (Kept.alloc [] _ _)).trans (Kept.alloc [] _ _)), by simp; omega⟩
 refine ⟨Dev.wf_new H1.out H2.out, ⟨.slice .none 0 0, ?_, rfl, World.ownsRow_nil _ _ _ _⟩, ?_, ⟨#[], 0, ?_, rfl, MapKept.stamped_empty 0⟩⟩
 ·have h := heap_alloc_new ((w.alloc (.cells (madeCells (u8vs zeros).toArray (n * 128)) 90)).alloc (.map #[] 0)) (.cells #[.slice (some ⟨w.heap.size, 0, .none⟩) n n, .map (some (w.heap.size + 1)), .int .i64 (-1), .slice .none 0 0, .int .i64 (-1), .int .i64 0, .bool false] 44)
  simp only [World.size_alloc] at h
  rw [h]
  simp [Dev.new]
 ·rw [Below.heap_alloc _ _ _ (by simp; omega), Below.heap_alloc _ _ _ (by simp), heap_alloc_new]
  simp [Dev.new, ← made_flat]
 ·rw [Below.heap_alloc _ _ _ (by simp)]
  have h := heap_alloc_new (w.alloc (.cells (madeCells (u8vs zeros).toArray (n * 128)) 90)) (.map #[] 0)
  simp only [World.size_alloc] at h
  exact h
end Go.Proofs.YtbnflbkaogpnbaaGreat
namespace Go.Proofs.YtbnflbkaogpnbaaGreat
open Go.RowKit
/-- The cells of a device's head. -/
theorem DevAt.cells {w : World} {a S M : Nat} {K : Option Nat} {d : Dev} (h : DevAt w a S M K d) :
  w.cell? ⟨a, 0, none⟩ = some (.slice (some ⟨S, 0, none⟩) d.secs.length d.secs.length) ∧ w.cell? ⟨a, 1, none⟩ = some (.map (some M)) ∧ w.cell? ⟨a, 2, none⟩ = some (.int .i64 d.fail) ∧
  w.cell? ⟨a, 4, none⟩ = some (.int .i64 d.till) ∧ w.cell? ⟨a, 5, none⟩ = some (.int .i64 d.works) ∧ w.cell? ⟨a, 6, none⟩ = some (.bool d.dead) ∧ ∀ i, w.frozen? ⟨a, i, none⟩ = false := by
 obtain ⟨kv, hh, _, _⟩ := h.head
 refine ⟨blk_cell hh 0, blk_cell hh 1, blk_cell hh 2, blk_cell hh 4, blk_cell hh 5, blk_cell hh 6, fun i => blk_frozen hh i⟩
set_option maxHeartbeats 400000 in
theorem none_any {w : World} {a S M : Nat} {K : Option Nat} {d : Dev} (h : DevAt w a S M K d) :
  Calls Tryz.prog 47 #[.pointer (some ⟨a, 0, none⟩)] w fun e w' => e = .returned (.bool false) ∧ w = w' := by
 obtain ⟨c0, c1, c2, c4, c5, c6, cf⟩ := h.cells
 have he := fun wx => run_eql_map_nil (P := Tryz.prog) wx 41 _ _ (some M) Tryz.underlying41
 go_enter Tryz.func47, Tryz.ntmps47
 go_wp2
 go_ret
 exact ⟨rfl, rfl⟩
/-- A device that is none. -/
theorem none_nil (w : World) : Calls Tryz.prog 47 #[.pointer none] w fun e w' => e = .returned (.bool true) ∧ w = w' := by
 go_enter Tryz.func47, Tryz.ntmps47
 go_wp2
 go_ret
 exact ⟨rfl, rfl⟩
set_option maxHeartbeats 400000 in
theorem wrong_any {w : World} {a S M : Nat} {K : Option Nat} {d : Dev} (h : DevAt w a S M K d) :
  Calls Tryz.prog 25 #[.pointer (some ⟨a, 0, none⟩)] w fun e w' => e = .returned (.int .i64 (if d.dead then 100 else 0)) ∧ w = w' := by
 obtain ⟨c0, c1, c2, c4, c5, c6, cf⟩ := h.cells
 cases hd : d.dead <;> rw [hd] at c6
 all_goals
  clear c0 c1 c2 c4 c5 cf hd
  go_enter Tryz.func25, Tryz.ntmps25
  go_wp2_with (go_at_call 47; refine (none_any h).mono ?_; rintro e w' ⟨rfl, rfl⟩)
  go_ret
  exact ⟨rfl, rfl⟩
theorem ret_i64 {a b : Int} (h : a = b) : Ending.returned (.int .i64 a) = .returned (.int .i64 b) := by rw [h]
set_option maxHeartbeats 400000 in
theorem at_any {w : World} {a S M : Nat} {K : Option Nat} {d : Dev} (h : DevAt w a S M K d) (i : Int) :
  Calls Tryz.prog 50 #[.pointer (some ⟨a, 0, none⟩), .int .i64 i] w fun e w' => e = .returned (.int .i64 (d.at_ i)) ∧ w = w' := by
 obtain ⟨c0, c1, c2, c4, c5, c6, cf⟩ := h.cells
 have hw := wrong_any h
 have hm := h.wf.many
 cases hd : d.dead <;> rw [hd] at hw
 ·clear c1 c2 c4 c5 c6 cf
  by_cases h0 : i < 0
  ·go_enter Tryz.func50, Tryz.ntmps50
   go_wp2_with (go_at_call 25; refine hw.mono ?_; rintro e w' ⟨rfl, rfl⟩)
   go_ret
   exact ⟨ret_i64 (by simp [Dev.at_, hd, h0]), rfl⟩
  ·by_cases h1 : i < (d.secs.length : Int)
   ·go_enter Tryz.func50, Tryz.ntmps50
    go_wp2_with (go_at_call 25; refine hw.mono ?_; rintro e w' ⟨rfl, rfl⟩)
    go_ret
    exact ⟨ret_i64 (by rw [Dev.at_, hd]; simp; omega), rfl⟩
   ·go_enter Tryz.func50, Tryz.ntmps50
    go_wp2_with (go_at_call 25; refine hw.mono ?_; rintro e w' ⟨rfl, rfl⟩)
    go_ret
    exact ⟨ret_i64 (by rw [Dev.at_, hd]; simp; omega), rfl⟩
 ·clear c0 c1 c2 c4 c5 c6 cf
  go_enter Tryz.func50, Tryz.ntmps50
  go_wp2_with (go_at_call 25; refine hw.mono ?_; rintro e w' ⟨rfl, rfl⟩)
  go_ret
  exact ⟨ret_i64 (by simp [Dev.at_, hd]), rfl⟩
set_option maxHeartbeats 400000 in
theorem size_any {w : World} {a S M : Nat} {K : Option Nat} {d : Dev} (h : DevAt w a S M K d) :
  Calls Tryz.prog 28 #[.pointer (some ⟨a, 0, none⟩)] w fun e w' => e = .returned (.int .i64 d.secs.length) ∧ w = w' := by
 obtain ⟨c0, c1, c2, c4, c5, c6, cf⟩ := h.cells
 go_enter Tryz.func28, Tryz.ntmps28
 go_wp2_with (go_at_call 47; refine (none_any h).mono ?_; rintro e w' ⟨rfl, rfl⟩)
 go_ret
 exact ⟨rfl, rfl⟩
set_option maxHeartbeats 400000 in
theorem works_any {w : World} {a S M : Nat} {K : Option Nat} {d : Dev} (h : DevAt w a S M K d) :
  Calls Tryz.prog 53 #[.pointer (some ⟨a, 0, none⟩)] w fun e w' => e = .returned (.int .i64 d.works) ∧ w = w' := by
 obtain ⟨c0, c1, c2, c4, c5, c6, cf⟩ := h.cells
 go_enter Tryz.func53, Tryz.ntmps53
 go_wp2_with (go_at_call 47; refine (none_any h).mono ?_; rintro e w' ⟨rfl, rfl⟩)
 go_ret
 exact ⟨rfl, rfl⟩
set_option maxHeartbeats 400000 in
theorem dead_any {w : World} {a S M : Nat} {K : Option Nat} {d : Dev} (h : DevAt w a S M K d) :
  Calls Tryz.prog 37 #[.pointer (some ⟨a, 0, none⟩)] w fun e w' => e = .returned (.bool d.dead) ∧ w = w' := by
 obtain ⟨c0, c1, c2, c4, c5, c6, cf⟩ := h.cells
 go_enter Tryz.func37, Tryz.ntmps37
 go_wp2_with (go_at_call 47; refine (none_any h).mono ?_; rintro e w' ⟨rfl, rfl⟩)
 go_ret
 exact ⟨rfl, rfl⟩
end Go.Proofs.YtbnflbkaogpnbaaGreat
namespace Go.Proofs.YtbnflbkaogpnbaaGreat
open Go.RowKit
/-- A deed that answers an error number. -/
def DevPost (w : World) (a S M : Nat) (K : Option Nat) (r : Dev × Int) (e : Ending) (w' : World) : Prop :=
 e = .returned (.int .i64 r.2) ∧ ∃ K', DevAt w' a S M K' r.1 ∧ Kept [a, S, M] w w' ∧ (∀ k, K' = some k → K = some k ∨ w.heap.size ≤ k)
theorem heap_set {w : World} {b : Nat} {c : Array Value} {t : TypeId} {fz : Nat × Nat} (h : w.heap[b]? = some (.cells c t fz)) (i : Nat) (v : Value) :
  (w.setCell ⟨b, i, none⟩ v).heap[b]? = some (.cells (c.setIfInBounds i v) t fz) := by
 simp [World.setCell, Array.getElem?_modify, h]
theorem DevAt.ne {w : World} {a S M : Nat} {K : Option Nat} {d : Dev} (h : DevAt w a S M K d) : a ≠ S ∧ a ≠ M ∧ S ≠ M ∧ K ≠ some a ∧ K ≠ some S ∧ K ≠ some M := by
 obtain ⟨kv, h1, hK, hr⟩ := h.head
 have h2 := h.secs
 obtain ⟨es, clk, h3, _⟩ := h.sure
 have hk : ∀ k, K = some k → ∃ cur, w.heap[k]? = some (.cells cur 3 (0, 0)) := by
  intro k e
  rcases hr.2 with ⟨rfl, _⟩ | ⟨g, cap, cur, rfl, _, hg, _⟩
  ·rw [e] at hK; cases hK
  ·rw [e] at hK
   simp only [Value.ownBlock, Option.some.injEq] at hK
   exact ⟨cur, hK ▸ hg⟩
 refine ⟨?_, ?_, ?_, ?_, ?_, ?_⟩
 ·rintro rfl; rw [h1] at h2; injection h2 with h2; injection h2 with _ h2; exact absurd h2 (by decide)
 ·rintro rfl; rw [h1] at h3; cases h3
 ·rintro rfl; rw [h2] at h3; cases h3
 ·intro e; obtain ⟨cur, hc⟩ := hk _ e; rw [h1] at hc; injection hc with hc; injection hc with _ hc; exact absurd hc (by decide)
 ·intro e; obtain ⟨cur, hc⟩ := hk _ e; rw [h2] at hc; injection hc with hc; injection hc with _ hc; exact absurd hc (by decide)
 ·intro e; obtain ⟨cur, hc⟩ := hk _ e; rw [h3] at hc; cases hc
/-- The head is written anew; what it leads to stays. -/
theorem DevAt.rehead {w w' : World} {a S M : Nat} {K : Option Nat} {d d' : Dev} (h : DevAt w a S M K d) (hk : Kept [a] w w') (hwf : d'.Wf) (hs : d'.secs = d.secs) (hsu : d'.sure = d.sure)
  (hh : ∀ kv, w.heap[a]? = some (.cells #[.slice (some ⟨S, 0, none⟩) d.secs.length d.secs.length, .map (some M), .int .i64 d.fail, kv, .int .i64 d.till, .int .i64 d.works, .bool d.dead] 44 (0, 0)) →
   w'.heap[a]? = some (.cells #[.slice (some ⟨S, 0, none⟩) d.secs.length d.secs.length, .map (some M), .int .i64 d'.fail, kv, .int .i64 d'.till, .int .i64 d'.works, .bool d'.dead] 44 (0, 0)))
  (hkp : d'.keep = d.keep) : DevAt w' a S M K d' := by
 obtain ⟨n1, n2, n3, n4, n5, n6⟩ := h.ne
 obtain ⟨l1, l2, l3, l4⟩ := h.lt
 obtain ⟨kv, h1, h2, hr⟩ := h.head
 obtain ⟨es, clk, h3, h4⟩ := h.sure
 have hnn : ∀ k, K = some k → k ∉ [a] := fun k e hm => by
  simp only [List.mem_singleton] at hm
  subst hm
  exact n4 e
 refine ⟨hwf, ⟨kv, by rw [hs]; exact hh kv h1, h2, ?_⟩, by rw [hs]; exact (hk.block S l2 (by simpa using fun e => n1 e.symm)).trans h.secs, ⟨es, clk, (hk.block M l3 (by simpa using fun e => n2 e.symm)).trans h3, by rw [hsu]; exact h4⟩⟩
 rw [hkp]
 obtain ⟨r1, r2⟩ := hr
 refine ⟨r1, ?_⟩
 rcases r2 with r2 | ⟨g, cap, cur, rfl, hb, hg, r3⟩
 ·exact .inl r2
 ·have hgK : K = some g := by rw [← h2]; rfl
  exact .inr ⟨g, cap, cur, rfl, hb, (hk.block g (l4 g hgK) (hnn g hgK)).trans hg, r3⟩
theorem DevPost.of_rehead {w w' : World} {a S M : Nat} {K : Option Nat} {d' : Dev} {n : Int} (h : DevAt w' a S M K d') (hk : Kept [a] w w') : DevPost w a S M K (d', n) (.returned (.int .i64 n)) w' :=
 ⟨rfl, K, h, hk.mono (fun i hi => .inl (by simp at hi; simp [hi])), fun _ e => .inl e⟩
theorem DevPost.same {w : World} {a S M : Nat} {K : Option Nat} {d : Dev} {n : Int} (h : DevAt w a S M K d) : DevPost w a S M K (d, n) (.returned (.int .i64 n)) w :=
 ⟨rfl, K, h, Kept.refl _ _, fun _ e => .inl e⟩
set_option maxHeartbeats 400000 in
theorem boot_any {w : World} {a S M : Nat} {K : Option Nat} {d : Dev} (h : DevAt w a S M K d) :
  Calls Tryz.prog 64 #[.pointer (some ⟨a, 0, none⟩)] w (DevPost w a S M K (d.boot, 0)) := by
 obtain ⟨c0, c1, c2, c4, c5, c6, cf⟩ := h.cells
 clear c0 c1 c2 c4 c5
 go_enter Tryz.func64, Tryz.ntmps64
 go_wp2_with (go_at_call 47; refine (none_any h).mono ?_; rintro e w' ⟨rfl, rfl⟩)
 go_ret
 refine DevPost.of_rehead (h.rehead (Kept.setCell (by simp) _) { h.wf with } rfl rfl (fun kv hh => ?_) rfl) (Kept.setCell (by simp) _)
 rw [heap_set hh]
 rfl
set_option maxHeartbeats 400000 in
theorem refuse_any {w : World} {a S M : Nat} {K : Option Nat} {d : Dev} (hD : DevAt w a S M K d) (n : Int) (h0 : -9223372036854775808 ≤ n) (h1 : n ≤ 9223372036854775807) :
    Calls Tryz.prog 68 #[.pointer (some ⟨a, 0, none⟩), .int .i64 n] w (DevPost w a S M K (d.refuse n)) := by
  obtain ⟨c0, c1, c2, c4, c5, c6, cf⟩ := hD.cells
  have hw := wrong_any hD
  have hd : d.dead = true ∨ d.dead = false := by cases d.dead <;> simp
  clear c0 c1 c2 c5 c6
  rcases hd with hd | hd
  · have e : d.refuse n = (d, 100) := by simp [Dev.refuse, hd]
    rw [e]; rw [hd] at hw
    have HD := Lib.hid hd; clear hd e
    go_enter Tryz.func68, Tryz.ntmps68
    go_wp2_with (go_at_call 25; refine hw.mono ?_; rintro e w' ⟨rfl, rfl⟩)
    go_ret
    exact DevPost.same hD
  · have e : d.refuse n = ({ d with till := max n (-1) }, 0) := by simp [Dev.refuse, hd]
    rw [e]; rw [hd] at hw
    have HD := Lib.hid hd; clear hd e
    have hwf : ({ d with till := max n (-1) } : Dev).Wf := { hD.wf with till0 := by simp only; omega, till1 := by simp only; omega }
    go_enter Tryz.func68, Tryz.ntmps68
    go_wp2_with (go_at_call 25; refine hw.mono ?_; rintro e w' ⟨rfl, rfl⟩)
    all_goals
      go_ret
      refine DevPost.of_rehead (hD.rehead (Kept.setCell (by simp) _) hwf rfl rfl (fun kv hh => ?_) rfl) (Kept.setCell (by simp) _)
      rw [heap_set hh]
      first | (have e : max n (-1) = -1 := by omega
               simp only [e]; rfl) | (have e : max n (-1) = n := by omega
                                      simp only [e]; rfl)
/-- A slice that is owned, as a slice that reads. -/
theorem SlAt.of_own {w : World} {base : Nat} {t : TypeId} {v : Value} {n : Nat} {xs : List Value} (h : w.ownsRow base t 1 v n xs) : ∃ A c, v = .slice A n c ∧ SlAt w A n c xs ∧ (∀ a, A = some a → v.ownBlock = some a.block ∧ base ≤ a.block) := by
 obtain ⟨h1, h2⟩ := h
 rcases h2 with ⟨rfl, rfl⟩ | ⟨g, cap, cur, rfl, hb, hg, hnc, hcm, hs, ht⟩
 ·exact ⟨none, 0, rfl, ⟨by simpa using h1, Nat.le_refl _, by unfold maxLen; omega, fun h => by omega⟩, fun a e => by cases e⟩
 ·refine ⟨some ⟨g, 0, none⟩, cap, rfl, ⟨by simpa using h1, hnc, hcm, fun hn => ⟨g, 0, rfl, World.lt_of_heap hg, fun i hi => ?_⟩⟩, fun a e => by cases e; exact ⟨rfl, hb⟩⟩
  rw [blk_cell hg, ← ht, Nat.zero_add, List.getElem?_take, if_pos (by omega), Array.getElem?_toList]
/-- What a copy of a slice does: nil of nil; else a new row. -/
def ClonePost (w : World) (t : TypeId) (n : Nat) (xs : List Value) (e : Ending) (w' : World) : Prop :=
 ∃ A c, e = .returned (.slice A n c) ∧ w'.ownsRow w.heap.size t 1 (.slice A n c) n xs ∧ Below w.heap.size w w'
theorem ClonePost.mk {w w' : World} {t : TypeId} {n : Nat} {xs : List Value} {v : Value} (h : w'.ownsRow w.heap.size t 1 v n xs) (hb : Below w.heap.size w w') : ClonePost w t n xs (.returned v) w' := by
 obtain ⟨A, c, rfl, _⟩ := SlAt.of_own h
 exact ⟨A, c, rfl, h, hb⟩
theorem info_u8 : (Tryz.prog.info? 5).map (fun i => (i.zero, i.size, i.bytes)) = some (some (.int .u8 0), 1, 1) := by kernel_rfl
theorem info_int : (Tryz.prog.info? 3).map (fun i => (i.zero, i.size, i.bytes)) = some (some (.int .i64 0), 1, 8) := by kernel_rfl
theorem add_block (b o i : Nat) : (⟨b, o, none⟩ : Addr).add i = ⟨b, o + i, none⟩ := by
 unfold Addr.add
 split
 ·rename_i h; subst h; rfl
 ·rfl
/-- The cells of a slice, by address. -/
theorem SlAt.news {w : World} {ad : Addr} {n c : Nat} {xs : List Value} (h : SlAt w (some ad) n c xs) : ∀ j u, xs[j]? = some u → w.cell? (ad.add j) = some u := by
 intro j u hj
 have hl := (List.getElem?_eq_some_iff.1 hj).1
 rw [h.len] at hl
 obtain ⟨b, o, e, _, hc⟩ := h.cells (by omega)
 cases e
 rw [add_block]
 exact (hc j hl).trans hj
theorem one_u8 (l : List UInt8) : ∀ u ∈ u8vs l, u.oneCell' = true := by
 intro u hu
 simp only [u8vs, List.mem_map] at hu
 obtain ⟨b, _, rfl⟩ := hu
 rfl
theorem one_i64 (l : List Int) : ∀ u ∈ l.map i64v, u.oneCell' = true := by
 intro u hu
 simp only [List.mem_map] at hu
 obtain ⟨b, _, rfl⟩ := hu
 rfl
theorem SlAt.none_zero {w : World} {n c : Nat} {xs : List Value} (h : SlAt w none n c xs) : n = 0 ∧ xs = [] := by
 have hn : n = 0 := by
  rcases Nat.eq_zero_or_pos n with h0 | h0
  ·exact h0
  ·obtain ⟨_, _, e, _⟩ := h.cells h0; cases e
 exact ⟨hn, List.eq_nil_of_length_eq_zero (h.len.trans hn)⟩
set_option maxHeartbeats 400000 in
theorem bytesClone_any (w : World) (A : Option Addr) (n c : Nat) (xs : List UInt8) (hx : SlAt w A n c (u8vs xs)) (hn : n ≤ 140737488355328) :
  Calls Tryz.prog 42 #[.slice A n c] w (ClonePost w 5 n (u8vs xs)) := by
 have hq := fun wx => Lib.run_eql_slice_nil (P := Tryz.prog) wx 45 5 A n c 0 0 Tryz.underlying45
 obtain ⟨i0, hi, hz0, hz1, hz2⟩ := info_parts info_u8
 rcases A with _ | ad
 ·obtain ⟨rfl, h0⟩ := hx.none_zero
  rw [h0]
  clear hn
  go_enter Tryz.func42, Tryz.ntmps42
  go_wp2
  go_ret
  exact ClonePost.mk (World.ownsRow_nil _ _ _ _) (Below.refl _ _)
 ·have hb : (w.alloc (.cells #[] 5)).ownsRow w.heap.size 5 1 (.slice (some ⟨w.heap.size, 0, none⟩) 0 0) 0 [] := World.ownsRow_lit w #[] 0 (Nat.le_refl _) (by unfold maxLen; omega) rfl
  have hx' := hx.kept (Kept.alloc [] w (.cells #[] 5)) (by simp)
  have s1 : (u8vs xs).length = n * 1 := by rw [hx.len]; omega
  have s4 : 0 + n ≤ maxLen := by unfold maxLen; omega
  have s5 : (0 + n) * 1 ≤ 140737488355328 := by omega
  have s6 : w.heap.size ≤ (w.alloc (.cells #[] 5)).heap.size := by simp
  have S1 := Lib.hid s1; clear s1
  go_enter Tryz.func42, Tryz.ntmps42
  go_wp2_with (at_builtin; refine wpList_append_own _ rfl _ _ 45 rfl w.heap.size 5 i0 (.int .u8 0) 1 1 Tryz.underlying45 hi hz0 hz1 hz2 rfl (by decide) _ _ _ rfl hb ad n c (u8vs xs) rfl S1.out hx'.news (one_u8 xs) s4 s5 s6 ?_; intro v' w1 hown' hgrow _)
  go_ret
  simp only [Nat.zero_add, List.nil_append] at hown'
  exact ClonePost.mk hown' (((Below.refl _ w).alloc (Nat.le_refl _) _).grown hgrow (by simp) (fun k e => by cases e; exact Nat.le_refl _))
set_option maxHeartbeats 400000 in
theorem intsClone_any (w : World) (A : Option Addr) (n c : Nat) (xs : List Int) (hx : SlAt w A n c (xs.map i64v)) (hn : n * 8 ≤ 140737488355328) :
  Calls Tryz.prog 99 #[.slice A n c] w (ClonePost w 3 n (xs.map i64v)) := by
 have hq := fun wx => Lib.run_eql_slice_nil (P := Tryz.prog) wx 42 3 A n c 0 0 Tryz.underlying42
 obtain ⟨i0, hi, hz0, hz1, hz2⟩ := info_parts info_int
 rcases A with _ | ad
 ·obtain ⟨rfl, h0⟩ := hx.none_zero
  rw [h0]
  clear hn
  go_enter Tryz.func99, Tryz.ntmps99
  go_wp2
  go_ret
  exact ClonePost.mk (World.ownsRow_nil _ _ _ _) (Below.refl _ _)
 ·have hb : (w.alloc (.cells #[] 3)).ownsRow w.heap.size 3 1 (.slice (some ⟨w.heap.size, 0, none⟩) 0 0) 0 [] := World.ownsRow_lit w #[] 0 (Nat.le_refl _) (by unfold maxLen; omega) rfl
  have hx' := hx.kept (Kept.alloc [] w (.cells #[] 3)) (by simp)
  have s1 : (xs.map i64v).length = n * 1 := by rw [hx.len]; omega
  have s4 : 0 + n ≤ maxLen := by unfold maxLen; omega
  have s5 : (0 + n) * 8 ≤ 140737488355328 := by omega
  have s6 : w.heap.size ≤ (w.alloc (.cells #[] 3)).heap.size := by simp
  have S1 := Lib.hid s1; clear s1
  go_enter Tryz.func99, Tryz.ntmps99
  go_wp2_with (at_builtin; refine wpList_append_own _ rfl _ _ 42 rfl w.heap.size 3 i0 (.int .i64 0) 1 8 Tryz.underlying42 hi hz0 hz1 hz2 rfl (by decide) _ _ _ rfl hb ad n c (xs.map i64v) rfl S1.out hx'.news (one_i64 xs) s4 s5 s6 ?_; intro v' w1 hown' hgrow _)
  go_ret
  simp only [Nat.zero_add, List.nil_append] at hown'
  exact ClonePost.mk hown' (((Below.refl _ w).alloc (Nat.le_refl _) _).grown hgrow (by simp) (fun k e => by cases e; exact Nat.le_refl _))
end Go.Proofs.YtbnflbkaogpnbaaGreat
