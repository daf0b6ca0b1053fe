/- Two sectors by turns, on the plain model of a device. No program in sight. -/
import Derived.Test.YtbnflbkaogpnbaaSA
namespace Go.Proofs.Ytbnflbkaogpnbaa
set_option linter.unusedVariables false

def big8 (n : Nat) : List UInt8 := [UInt8.ofNat (n / 72057594037927936), UInt8.ofNat (n / 281474976710656), UInt8.ofNat (n / 1099511627776), UInt8.ofNat (n / 4294967296), UInt8.ofNat (n / 16777216), UInt8.ofNat (n / 65536), UInt8.ofNat (n / 256), UInt8.ofNat n]
def num8 (b : List UInt8) : Nat := b.foldl (fun n c => n * 256 + c.toNat) 0

theorem num8_big8 {n : Nat} (h : n < 18446744073709551616) : num8 (big8 n) = n := by
  simp only [num8, big8, List.foldl_cons, List.foldl_nil, UInt8.toNat_ofNat']
  omega

/-- A slot's bytes, ahead of the sum. -/
def slotHead (t : Nat) (b : List UInt8) : List UInt8 := big8 t ++ (UInt8.ofNat b.length :: (b ++ List.replicate (115 - b.length) 0))
def slotB (t : Nat) (b : List UInt8) : Blk := sumd (slotHead t b)

theorem length_slotHead {t : Nat} {b : List UInt8} (h : b.length ≤ 115) : (slotHead t b).length = 124 := by simp [slotHead, big8]; omega
theorem length_slotB {t : Nat} {b : List UInt8} (h : b.length ≤ 115) : (slotB t b).length = 128 := by rw [slotB, length_sumd, length_slotHead h]

/-- What a sector has: its turn, what is saved; none: it neither counts nor is empty. -/
def readSlot (x : Blk) : Option (Nat × List UInt8) :=
  if x = zeros then some (0, [])
  else if num8 (x.take 8) = 0 ∨ 9007199254740991 < num8 (x.take 8) ∨ 100 < (x[8]?.getD 0).toNat then none
  else if slotB (num8 (x.take 8)) ((x.drop 9).take (x[8]?.getD 0).toNat) = x then some (num8 (x.take 8), (x.drop 9).take (x[8]?.getD 0).toNat)
  else none

theorem slotB_take (t : Nat) (b : List UInt8) : (slotB t b).take 8 = big8 t := by simp [slotB, sumd, slotHead, big8]
theorem slotB_size {t : Nat} {b : List UInt8} (h : b.length ≤ 100) : ((slotB t b)[8]?.getD 0).toNat = b.length := by
  simp [slotB, sumd, slotHead, big8, UInt8.toNat_ofNat']
  omega
theorem slotB_text (t : Nat) (b : List UInt8) : ((slotB t b).drop 9).take b.length = b := by simp [slotB, sumd, slotHead, big8]

theorem slotB_ne_zeros {t : Nat} (b : List UInt8) (h0 : 1 ≤ t) (h1 : t < 18446744073709551616) : slotB t b ≠ zeros := fun e => by
  have h := congrArg (fun l => num8 (l.take 8)) e
  simp only [slotB_take, num8_big8 h1] at h
  have h2 : num8 (zeros.take 8) = 0 := by decide
  omega

theorem slotB_turn {t u : Nat} {b c : List UInt8} (h1 : t < 18446744073709551616) (h2 : u < 18446744073709551616) (e : slotB t b = slotB u c) : t = u := by
  have h := congrArg (fun l => num8 (l.take 8)) e
  simpa only [slotB_take, num8_big8 h1, num8_big8 h2] using h

theorem readSlot_zeros : readSlot zeros = some (0, []) := by simp [readSlot]
theorem readSlot_slotB {t : Nat} {b : List UInt8} (h0 : 1 ≤ t) (h1 : t ≤ 9007199254740991) (hb : b.length ≤ 100) : readSlot (slotB t b) = some (t, b) := by
  unfold readSlot
  rw [if_neg (slotB_ne_zeros b h0 (by omega)), slotB_take, num8_big8 (by omega), slotB_size hb, slotB_text, if_neg (by omega), if_pos rfl]

/-- What is there of slots: the first sector, which one is the newer one, its turn, what is saved. -/
structure Sl where
  first : Nat
  newer : Nat
  turn : Nat
  text : List UInt8

/-- Slots of what two sectors have. -/
def Sl.of (first : Nat) (x y : Blk) : Option Sl :=
  match readSlot x, readSlot y with
  | some (m, a), some (n, b) => if m = n ∧ 0 < m then none else if m < n then some ⟨first, 1, n, b⟩ else some ⟨first, 0, m, a⟩
  | _, _ => none

/-- Which sector Save writes. -/
def Sl.which (s : Sl) : Nat := if s.turn = 0 then 0 else 1 - s.newer

/-- What Save does. -/
def Sl.save (s : Sl) (d : Dev) (b : List UInt8) : Sl × Dev × Int :=
  if 100 < b.length then (s, d, 2)
  else
    let r := d.write ((s.first + s.which : Nat) : Int) (slotB (s.turn + 1) b)
    if r.2 ≠ 0 then (s, r.1, r.2)
    else
      let q := r.1.flush
      if q.2 ≠ 0 then (s, q.1, q.2) else ({ s with newer := s.which, turn := s.turn + 1, text := b }, q.1, 0)

/-- A sector that is older than a turn. -/
def Older (t : Nat) (x : Blk) : Prop := x = zeros ∨ ∃ u b, x = slotB u b ∧ 1 ≤ u ∧ u < t ∧ b.length ≤ 100

/-- The two sectors of slots. -/
structure Sl.In (s : Sl) (x y : Blk) : Prop where
  newer : s.newer ≤ 1
  turn : s.turn ≤ 1000000
  text : s.text.length ≤ 100
  zero : s.turn = 0 → s.newer = 0 ∧ s.text = [] ∧ x = zeros ∧ y = zeros
  pos : 0 < s.turn → (s.newer = 0 → x = slotB s.turn s.text ∧ Older s.turn y) ∧ (s.newer = 1 → y = slotB s.turn s.text ∧ Older s.turn x)

theorem Older.len {t : Nat} {x : Blk} (h : Older t x) : x.length = 128 := by
  rcases h with rfl | ⟨u, b, rfl, _, _, hb⟩
  · exact length_zeros
  · exact length_slotB (by omega)

theorem Older.read {t : Nat} {x : Blk} (h : Older t x) (ht : t ≤ 1000000) (h0 : 0 < t) : ∃ u b, readSlot x = some (u, b) ∧ u < t := by
  rcases h with rfl | ⟨u, b, rfl, h1, h2, hb⟩
  · exact ⟨0, [], readSlot_zeros, h0⟩
  · exact ⟨u, b, readSlot_slotB h1 (by omega) hb, h2⟩

theorem Sl.In.of {s : Sl} {x y : Blk} (h : s.In x y) : Sl.of s.first x y = some s := by
  obtain ⟨first, newer, turn, text⟩ := s
  have h1 := h.newer; have h2 := h.turn; have h3 := h.text; have h4 := h.zero; have h5 := h.pos
  simp only at h1 h2 h3 h4 h5 ⊢
  by_cases ht : turn = 0
  · obtain ⟨rfl, rfl, rfl, rfl⟩ := h4 ht
    subst ht
    simp [Sl.of, readSlot_zeros]
  · obtain ⟨ha, hb⟩ := h5 (by omega)
    rcases (by omega : newer = 0 ∨ newer = 1) with rfl | rfl
    · obtain ⟨rfl, ho⟩ := ha rfl
      obtain ⟨u, b, hr, hu⟩ := ho.read h2 (by omega)
      simp only [Sl.of, readSlot_slotB (t := turn) (by omega) (by omega) h3, hr]
      rw [if_neg (by omega), if_neg (by omega)]
    · obtain ⟨rfl, ho⟩ := hb rfl
      obtain ⟨u, b, hr, hu⟩ := ho.read h2 (by omega)
      simp only [Sl.of, readSlot_slotB (t := turn) (by omega) (by omega) h3, hr]
      rw [if_neg (by omega), if_pos hu]

/-- Slots behind a Save. -/
def Sl.next (s : Sl) (b : List UInt8) : Sl := { s with newer := s.which, turn := s.turn + 1, text := b }

theorem Sl.In.which_le {s : Sl} {x y : Blk} (h : s.In x y) : s.which ≤ 1 := by unfold Sl.which; split <;> omega

/-- What Save writes. -/
theorem Sl.In.next {s : Sl} {x y : Blk} (h : s.In x y) (ht : s.turn + 1 ≤ 1000000) {b : List UInt8} (hb : b.length ≤ 100) :
    (s.next b).In (if s.which = 0 then slotB (s.turn + 1) b else x) (if s.which = 1 then slotB (s.turn + 1) b else y) := by
  obtain ⟨first, newer, turn, text⟩ := s
  have h1 := h.newer; have h2 := h.turn; have h3 := h.text; have h4 := h.zero; have h5 := h.pos
  simp only at h1 h2 h3 h4 h5 ht ⊢
  refine ⟨?_, ht, hb, fun e => by simp [Sl.next] at e, fun _ => ?_⟩
  · show Sl.which _ ≤ 1
    exact h.which_le
  · by_cases h0 : turn = 0
    · obtain ⟨rfl, rfl, rfl, rfl⟩ := h4 h0
      subst h0
      simp [Sl.next, Sl.which, Older]
    · obtain ⟨ha, hc⟩ := h5 (by omega)
      rcases (by omega : newer = 0 ∨ newer = 1) with rfl | rfl
      · obtain ⟨rfl, ho⟩ := ha rfl
        simp only [Sl.next, Sl.which, h0, if_false]
        refine ⟨fun e => by simp at e, fun _ => ⟨by simp, ?_⟩⟩
        simp only [Nat.sub_zero, Nat.succ_ne_zero, if_false]
        exact .inr ⟨turn, text, rfl, by omega, by omega, h3⟩
      · obtain ⟨rfl, ho⟩ := hc rfl
        simp only [Sl.next, Sl.which, h0, if_false]
        refine ⟨fun _ => ⟨by simp, ?_⟩, fun e => by simp at e⟩
        simp only [Nat.sub_self, Nat.zero_ne_one, if_false]
        exact .inr ⟨turn, text, rfl, by omega, by omega, h3⟩

/-- The slots s on the device d. -/
structure SlOn (s : Sl) (d : Dev) : Prop where
  there : s.first + 1 < d.secs.length
  pair : ∃ x y, d.secs[s.first]? = some x ∧ d.secs[s.first + 1]? = some y ∧ s.In x y

theorem SlOn.new {n f : Nat} (h : f + 1 < n) : SlOn ⟨f, 0, 0, []⟩ (Dev.new n) :=
  ⟨by simpa [Dev.new] using h, zeros, zeros, by simp only [Dev.new]; rw [List.getElem?_replicate, if_pos (by omega)], by simp only [Dev.new]; rw [List.getElem?_replicate, if_pos (by omega)], ⟨by simp, by simp, by simp, fun _ => ⟨rfl, rfl, rfl, rfl⟩, fun h => by simp at h⟩⟩

theorem SlOn.set {s : Sl} {d d' : Dev} (h : SlOn s d) (ht : s.turn + 1 ≤ 1000000) {b : List UInt8} (hb : b.length ≤ 100) (hd : ∀ i : Nat, i = s.first ∨ i = s.first + 1 → d'.secs[i]? = (d.secs.set (s.first + s.which) (slotB (s.turn + 1) b))[i]?) (hl : d'.secs.length = d.secs.length) : SlOn (s.next b) d' := by
  obtain ⟨x, y, h1, h2, h3⟩ := h.pair
  have hw := h3.which_le
  have hth := h.there
  refine ⟨by rw [hl]; exact h.there, _, _, ?_, ?_, h3.next ht hb⟩
  · show d'.secs[s.first]? = _
    rw [hd _ (.inl rfl)]
    by_cases e : s.which = 0
    · rw [e, if_pos rfl, Nat.add_zero, List.getElem?_set_self (by omega)]
    · rw [if_neg e, List.getElem?_set_ne (by omega), h1]
  · show d'.secs[s.first + 1]? = _
    rw [hd _ (.inr rfl)]
    by_cases e : s.which = 1
    · rw [e, if_pos rfl, List.getElem?_set_self (by omega)]
    · rw [if_neg e, List.getElem?_set_ne (by omega), h2]

/-- Where the two sectors are as they were. -/
theorem SlOn.same {s : Sl} {d d' : Dev} (h : SlOn s d) (hd : ∀ i : Nat, i = s.first ∨ i = s.first + 1 → d'.secs[i]? = d.secs[i]?) (hl : d'.secs.length = d.secs.length) : SlOn s d' := by
  obtain ⟨x, y, h1, h2, h3⟩ := h.pair
  exact ⟨by rw [hl]; exact h.there, x, y, (hd _ (.inl rfl)).trans h1, (hd _ (.inr rfl)).trans h2, h3⟩
end Go.Proofs.Ytbnflbkaogpnbaa
