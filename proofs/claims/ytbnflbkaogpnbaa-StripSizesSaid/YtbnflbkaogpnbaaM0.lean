/- The plain model of a device: sectors, what was sure of those that were written, and what is to come. No program in sight. -/
import Init
namespace Go.Proofs.Ytbnflbkaogpnbaa
/-- A sector's bytes: 128 of them. -/
abbrev Blk := List UInt8
/-- A sector of noughts. -/
def zeros : Blk := List.replicate 128 0
theorem length_zeros : zeros.length = 128 := by simp [zeros]

structure Dev where
  secs : List Blk
  sure : List (Nat × Blk)
  fail : Int
  keep : List Int
  till : Int
  works : Int
  dead : Bool

namespace Dev
/-- What was sure of a sector that was written since. -/
def look (s : List (Nat × Blk)) (i : Nat) : Option Blk := (s.find? (·.1 == i)).map (·.2)

/-- Is the k-th of the sectors that were written lost? -/
def lost (keep : List Int) (k : Nat) : Bool := decide (keep.length ≤ k) || (keep[k]?.getD 0).tmod 2 == 0

/-- The sectors behind a loss: those of the list, from the k-th on. -/
def backs (keep : List Int) (f : Nat → Blk) : Nat → List Nat → List Blk → List Blk
  | _, [], s => s
  | k, i :: r, s => backs keep f (k + 1) r (if lost keep k then s.set i (f i) else s)

def keys (d : Dev) : List Nat := (d.sure.map (·.1)).mergeSort (· ≤ ·)

def gone (d : Dev) (keep : List Int) : Dev :=
  { d with secs := backs keep (fun i => (look d.sure i).getD []) 0 d.keys d.secs, sure := [], fail := -1, till := -1, dead := true }

def midst (d : Dev) (i : Nat) (b : Blk) : Dev :=
  { d with sure := if (look d.sure i).isSome then d.sure else d.sure ++ [(i, d.secs[i]?.getD [])], secs := d.secs.set i b }

def counted (d : Dev) : Dev := { d with works := d.works + 1, fail := max (d.fail - 1) (-1), till := max (d.till - 1) (-1) }

/-- What stands in the way of a deed at a sector. -/
def at_ (d : Dev) (i : Int) : Int := if d.dead then 100 else if i < 0 ∨ (d.secs.length : Int) ≤ i then 9 else 0

def write (d : Dev) (i : Int) (b : Blk) : Dev × Int :=
  if d.at_ i ≠ 0 then (d, d.at_ i)
  else if b.length ≠ 128 then (d, 2)
  else if d.till = 0 then (d, 101)
  else if d.fail = 0 then ((d.midst i.toNat b).gone d.keep, 100)
  else ((d.midst i.toNat b).counted, 0)

def flush (d : Dev) : Dev × Int :=
  if d.dead then (d, 100)
  else if d.till = 0 then (d, 101)
  else if d.fail = 0 then (d.gone d.keep, 100)
  else ({ d with sure := [] }.counted, 0)

def crash (d : Dev) (keep : List Int) : Dev × Int := if d.dead then (d, 100) else (d.gone keep, 0)
def failAt (d : Dev) (n : Int) (keep : List Int) : Dev × Int := if d.dead then (d, 100) else ({ d with fail := max n (-1), keep := keep }, 0)
def refuse (d : Dev) (n : Int) : Dev × Int := if d.dead then (d, 100) else ({ d with till := max n (-1) }, 0)
def boot (d : Dev) : Dev := { d with dead := false }
def new (n : Nat) : Dev := { secs := List.replicate n zeros, sure := [], fail := -1, keep := [], till := -1, works := 0, dead := false }

/-- What every device is that was made. -/
structure Wf (d : Dev) : Prop where
  one : 1 ≤ d.secs.length
  many : d.secs.length ≤ 8192
  size : ∀ b ∈ d.secs, b.length = 128
  keyIn : ∀ p ∈ d.sure, p.1 < d.secs.length
  sureSize : ∀ p ∈ d.sure, p.2.length = 128
  nodup : (d.sure.map (·.1)).Nodup
  fail0 : -1 ≤ d.fail
  fail1 : d.fail ≤ 9223372036854775807
  till0 : -1 ≤ d.till
  till1 : d.till ≤ 9223372036854775807
  works0 : 0 ≤ d.works
  keepIn : ∀ n ∈ d.keep, -9223372036854775808 ≤ n ∧ n ≤ 9223372036854775807

theorem wf_new {n : Nat} (h1 : 1 ≤ n) (h2 : n ≤ 8192) : (new n).Wf where
  one := by simpa [new] using h1
  many := by simpa [new] using h2
  size := by intro b hb; simp only [new, List.mem_replicate] at hb; rw [hb.2, length_zeros]
  keyIn := by simp [new]
  sureSize := by simp [new]
  nodup := by simp [new]
  fail0 := by simp [new]
  fail1 := by simp [new]
  till0 := by simp [new]
  till1 := by simp [new]
  works0 := by simp [new]
  keepIn := by simp [new]

theorem length_backs (keep : List Int) (f : Nat → Blk) (r : List Nat) : ∀ (k : Nat) (s : List Blk), (backs keep f k r s).length = s.length := by
  induction r with
  | nil => intro k s; rfl
  | cons i r ih => intro k s; rw [backs, ih]; split <;> simp

theorem size_backs (keep : List Int) (f : Nat → Blk) (r : List Nat) : ∀ (k : Nat) (s : List Blk), (∀ b ∈ s, b.length = 128) → (∀ i ∈ r, (f i).length = 128) → ∀ b ∈ backs keep f k r s, b.length = 128 := by
  induction r with
  | nil => intro k s hs _; exact hs
  | cons i r ih =>
    intro k s hs hf
    rw [backs]
    refine ih _ _ ?_ (fun j hj => hf j (List.mem_cons_of_mem _ hj))
    split
    · intro b hb
      rcases List.mem_or_eq_of_mem_set hb with h | h
      · exact hs b h
      · rw [h]; exact hf i (List.mem_cons_self)
    · exact hs

theorem look_mem {s : List (Nat × Blk)} {i : Nat} {b : Blk} (h : look s i = some b) : (i, b) ∈ s := by
  unfold look at h
  cases hf : s.find? (·.1 == i) with
  | none => rw [hf] at h; cases h
  | some p =>
    rw [hf] at h
    simp only [Option.map_some, Option.some.injEq] at h
    have h1 := List.mem_of_find?_eq_some hf
    have h2 := List.find?_some hf
    simp only [beq_iff_eq] at h2
    obtain ⟨p1, p2⟩ := p
    simp only at h h2
    subst h h2
    exact h1

theorem look_none {s : List (Nat × Blk)} {i : Nat} : look s i = none ↔ i ∉ s.map (·.1) := by
  unfold look
  simp only [Option.map_eq_none_iff, List.find?_eq_none, beq_iff_eq, List.mem_map, not_exists, not_and]

theorem look_of_key {s : List (Nat × Blk)} {i : Nat} (h : i ∈ s.map (·.1)) : ∃ b, look s i = some b := by
  cases hl : look s i with
  | none => exact absurd h (look_none.1 hl)
  | some b => exact ⟨b, rfl⟩

theorem mem_keys {d : Dev} {i : Nat} : i ∈ d.keys ↔ i ∈ d.sure.map (·.1) := by
  unfold keys; exact List.mem_mergeSort

theorem Wf.gone {d : Dev} (h : d.Wf) (keep : List Int) : (d.gone keep).Wf where
  one := by simpa [Dev.gone, length_backs] using h.one
  many := by simpa [Dev.gone, length_backs] using h.many
  size := by
    refine size_backs _ _ _ _ _ h.size ?_
    intro i hi
    obtain ⟨b, hb⟩ := look_of_key (mem_keys.1 hi)
    rw [hb]
    exact h.sureSize _ (look_mem hb)
  keyIn := by simp [Dev.gone]
  sureSize := by simp [Dev.gone]
  nodup := by simp [Dev.gone]
  fail0 := by simp [Dev.gone]
  fail1 := by simp [Dev.gone]
  till0 := by simp [Dev.gone]
  till1 := by simp [Dev.gone]
  works0 := h.works0
  keepIn := h.keepIn

theorem Wf.midst {d : Dev} (h : d.Wf) {i : Nat} (hi : i < d.secs.length) {b : Blk} (hb : b.length = 128) : (d.midst i b).Wf where
  one := by simpa [Dev.midst] using h.one
  many := by simpa [Dev.midst] using h.many
  size := by
    intro c hc
    rcases List.mem_or_eq_of_mem_set hc with h1 | h1
    · exact h.size c h1
    · rw [h1]; exact hb
  keyIn := by
    intro p hp
    simp only [Dev.midst, List.length_set] at hp ⊢
    split at hp
    · exact h.keyIn p hp
    · rcases List.mem_append.1 hp with h1 | h1
      · exact h.keyIn p h1
      · simp only [List.mem_singleton] at h1; rw [h1]; exact hi
  sureSize := by
    intro p hp
    simp only [Dev.midst] at hp
    split at hp
    · exact h.sureSize p hp
    · rcases List.mem_append.1 hp with h1 | h1
      · exact h.sureSize p h1
      · simp only [List.mem_singleton] at h1
        rw [h1, List.getElem?_eq_getElem hi]
        exact h.size _ (List.getElem_mem hi)
  nodup := by
    simp only [Dev.midst]
    split
    · exact h.nodup
    · rename_i hn
      rw [List.map_append, List.nodup_append]
      refine ⟨h.nodup, by simp, ?_⟩
      intro a ha c hc
      simp only [List.map_cons, List.map_nil, List.mem_singleton] at hc
      rintro rfl
      subst hc
      obtain ⟨v, hv⟩ := look_of_key ha
      rw [hv] at hn
      simp at hn
  fail0 := h.fail0
  fail1 := h.fail1
  till0 := h.till0
  till1 := h.till1
  works0 := h.works0
  keepIn := h.keepIn

theorem Wf.counted {d : Dev} (h : d.Wf) : d.counted.Wf where
  one := h.one
  many := h.many
  size := h.size
  keyIn := h.keyIn
  sureSize := h.sureSize
  nodup := h.nodup
  fail0 := by simp only [Dev.counted]; omega
  fail1 := by have := h.fail1; simp only [Dev.counted]; omega
  till0 := by simp only [Dev.counted]; omega
  till1 := by have := h.till1; simp only [Dev.counted]; omega
  works0 := by have := h.works0; simp only [Dev.counted]; omega
  keepIn := h.keepIn

theorem Wf.cleared {d : Dev} (h : d.Wf) : ({ d with sure := [] } : Dev).Wf where
  one := h.one
  many := h.many
  size := h.size
  keyIn := by simp
  sureSize := by simp
  nodup := by simp
  fail0 := h.fail0
  fail1 := h.fail1
  till0 := h.till0
  till1 := h.till1
  works0 := h.works0
  keepIn := h.keepIn
end Dev
end Go.Proofs.Ytbnflbkaogpnbaa
