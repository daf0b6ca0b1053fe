/- Bits of a record, turned. -/
import Derived.Test.YtbnflbkaogpnbaaSA
namespace Go.Proofs.Ytbnflbkaogpnbaa

theorem byte_eq {x y : UInt8} (h : ∀ r, r < 8 → x.toNat.testBit r = y.toNat.testBit r) : x = y := by
  apply UInt8.toNat_inj.1
  apply Nat.eq_of_testBit_eq
  intro r
  by_cases hr : r < 8
  · exact h r hr
  · have h1 := x.toNat_lt; have h2 := y.toNat_lt
    have e : 2 ^ 8 ≤ 2 ^ r := Nat.pow_le_pow_right (by omega) (by omega)
    rw [Nat.testBit_lt_two_pow (by omega), Nat.testBit_lt_two_pow (by omega)]

theorem list_of_bits {X Y : List UInt8} (hl : X.length = Y.length) (h : ∀ p, p < 8 * X.length → bitOf X p = bitOf Y p) : X = Y := by
  apply List.ext_getElem hl
  intro i h1 h2
  apply byte_eq
  intro r hr
  have h3 := h (8 * i + r) (by omega)
  unfold bitOf at h3
  rw [show (8 * i + r) / 8 = i by omega, show (8 * i + r) % 8 = r by omega, List.getElem?_eq_getElem h1, List.getElem?_eq_getElem h2] at h3
  exact h3

theorem bitOf_drop (X : List UInt8) (d p : Nat) : bitOf (X.drop d) p = bitOf X (8 * d + p) := by
  unfold bitOf
  rw [List.getElem?_drop, show (8 * d + p) / 8 = d + p / 8 by omega, show (8 * d + p) % 8 = p % 8 by omega]

theorem bitOf_take (X : List UInt8) {m p : Nat} (h : p < 8 * m) : bitOf (X.take m) p = bitOf X p := by
  unfold bitOf
  rw [List.getElem?_take, if_pos (by omega)]

theorem bitOf_diff {a b : List UInt8} (hl : a.length = b.length) {p : Nat} (hp : p < 8 * a.length) : bitOf (diff a b) p = xor (bitOf a p) (bitOf b p) := by
  unfold bitOf diff
  have h1 : p / 8 < a.length := by omega
  rw [List.getElem?_zipWith, List.getElem?_eq_getElem h1, List.getElem?_eq_getElem (by omega : p / 8 < b.length)]
  simp only [Option.getD_some, UInt8.toNat_xor, Nat.testBit_xor]

/-- A bit, turned. -/
def flip (X : List UInt8) (p : Nat) : List UInt8 := X.set (p / 8) (UInt8.ofNat ((X[p / 8]?.getD 0).toNat ^^^ 2 ^ (p % 8)))
theorem length_flip (X : List UInt8) (p : Nat) : (flip X p).length = X.length := by simp [flip]

theorem flip_lt (x : UInt8) (r : Nat) (hr : r < 8) : x.toNat ^^^ 2 ^ r < 256 := by
  have h1 := x.toNat_lt
  have h2 : 2 ^ r < 2 ^ 8 := Nat.pow_lt_pow_right (by omega) hr
  exact Nat.xor_lt_two_pow (n := 8) (by omega) (by omega)

theorem bitOf_flip {X : List UInt8} {p : Nat} (hp : p < 8 * X.length) (q : Nat) : bitOf (flip X p) q = xor (bitOf X q) (decide (q = p)) := by
  unfold bitOf flip
  have h1 : p / 8 < X.length := by omega
  by_cases hb : q / 8 = p / 8
  · rw [hb, List.getElem?_set_self h1, Option.getD_some]
    have hlt := flip_lt (X[p / 8]?.getD 0) (p % 8) (by omega)
    rw [UInt8.toNat_ofNat', Nat.mod_eq_of_lt (by omega), Nat.testBit_xor, Nat.testBit_two_pow]
    have e : decide (p % 8 = q % 8) = decide (q = p) := by
      by_cases hq : q = p
      · simp [hq]
      · rw [decide_eq_false hq, decide_eq_false (by omega)]
    rw [e]
  · rw [List.getElem?_set_ne (fun e => hb e.symm), decide_eq_false (fun e => hb (by rw [e]))]
    simp

theorem turned_of {data : List UInt8} {n : Nat} (hn : data.length = n) (hn2 : n ≤ 16384) {X Y : List UInt8} (hX : n + 7 ≤ X.length) (hY : Y.length = X.length) (hrec : X.take (n + 7) = recB data) {k t : Nat} (hk : 24 ≤ k) (hk2 : k < 24 + 8 * n) (ht : t.testBit 0 = true)
    (hbits : ∀ q, bitOf Y q = xor (bitOf X q) (decide (k ≤ q ∧ q < k + 32 ∧ q < 24 + 8 * n) && t.testBit (q - k))) : NoRecs (Y.take (n + 7)) := by
  have same : ∀ q, q < 24 ∨ 24 + 8 * n ≤ q → bitOf Y q = bitOf X q := fun q hq => by
    rw [hbits q, decide_eq_false (by omega)]; simp
  have split : ∀ Z : List UInt8, Z.take (n + 7) = Z.take 3 ++ (Z.drop 3).take n ++ (Z.drop (3 + n)).take 4 := fun Z => by
    rw [show n + 7 = 3 + n + 4 by omega, List.take_add, List.take_add]
  have hX3 : X.take 3 = headOf n := by
    have := congrArg (List.take 3) hrec
    rw [List.take_take, Nat.min_eq_left (by omega), recB, sumd, hn, List.append_assoc] at this
    rw [this]
    simp [headOf]
  have hXm : (X.drop 3).take n = data := by
    have := congrArg (fun l => (List.drop 3 l).take n) hrec
    simp only [recB, sumd, hn] at this
    rw [List.drop_take, List.take_take, Nat.min_eq_left (by omega)] at this
    rw [this]
    simp [headOf, ← hn]
  have hXt : (X.drop (3 + n)).take 4 = rowOf (crc (headOf n ++ data)) := by
    have := congrArg (List.drop (3 + n)) hrec
    simp only [recB, sumd, hn] at this
    rw [List.drop_take, show n + 7 - (3 + n) = 4 by omega] at this
    rw [this, List.drop_left' (by simp [headOf, hn]; omega)]
  have hY3 : Y.take 3 = X.take 3 := list_of_bits (by simp; omega) (fun p hp => by
    simp only [List.length_take] at hp
    rw [bitOf_take Y (m := 3) (by omega), bitOf_take X (m := 3) (by omega), same p (.inl (by omega))])
  have hYt : (Y.drop (3 + n)).take 4 = (X.drop (3 + n)).take 4 := list_of_bits (by simp; omega) (fun p hp => by
    simp only [List.length_take] at hp
    rw [bitOf_take _ (m := 4) (by omega), bitOf_take _ (m := 4) (by omega), bitOf_drop, bitOf_drop, same _ (.inr (by omega))])
  obtain ⟨b, hb⟩ : ∃ b, (Y.drop 3).take n = b := ⟨_, rfl⟩
  have hbl : b.length = data.length := by rw [← hb, List.length_take, List.length_drop, hn]; omega
  have hd : ∀ p, p < 8 * n → bitOf (diff data b) p = (decide (k ≤ 24 + p ∧ 24 + p < k + 32) && t.testBit (24 + p - k)) := fun p hp => by
    rw [bitOf_diff hbl.symm (by omega), ← hb, bitOf_take _ (by omega), bitOf_drop, hbits]
    have e1 : bitOf data p = bitOf X (8 * 3 + p) := by rw [← hXm, bitOf_take _ (by omega), bitOf_drop]
    rw [e1, ← Bool.xor_assoc, Bool.xor_self, Bool.false_xor]
    congr 1
    apply decide_eq_decide.2
    omega
  rw [split, hY3, hb, hYt, hX3, hXt]
  have hz : ∀ p, 8 * n ≤ p → bitOf (diff data b) p = false := fun p hp => by
    unfold bitOf
    rw [List.getElem?_eq_none (by simp [diff]; omega)]
    simp
  have := turned_none (a := data) (b := b) (by omega) hbl (k := k - 24) (by omega) (fun p hp => ?_) ?_ (fun p hp hp2 => ?_)
  · rw [hn] at this; exact this
  · rw [hd p (by omega), decide_eq_false (by omega)]; simp
  · rw [hd (k - 24) (by omega), decide_eq_true (by omega), show 24 + (k - 24) - k = 0 by omega, ht]; rfl
  · rw [hd p (by omega), decide_eq_false (by omega)]; simp
end Go.Proofs.Ytbnflbkaogpnbaa
