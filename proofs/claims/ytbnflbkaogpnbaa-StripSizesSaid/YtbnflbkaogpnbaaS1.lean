/- Records, as they stand in a strip: what is cut of bytes. No program in sight. -/
import Derived.Test.YtbnflbkaogpnbaaS0
namespace Go.Proofs.Ytbnflbkaogpnbaa

/-- A sum's bytes, the lowest first. -/
def rowOf (s : Nat) : List UInt8 := [UInt8.ofNat s, UInt8.ofNat (s / 256), UInt8.ofNat (s / 65536), UInt8.ofNat (s / 16777216)]
/-- Bytes with their sum behind them. -/
def sumd (x : List UInt8) : List UInt8 := x ++ rowOf (crc x)
def headOf (n : Nat) : List UInt8 := [UInt8.ofNat (n / 65536), UInt8.ofNat (n / 256), UInt8.ofNat n]
/-- A record's bytes. -/
def recB (b : List UInt8) : List UInt8 := sumd (headOf b.length ++ b)
def recs (l : List (List UInt8)) : List UInt8 := l.flatMap recB
def Small (l : List (List UInt8)) : Prop := ∀ b ∈ l, b.length ≤ 16384
def size3 (b : List UInt8) : Nat := (b[0]?.getD 0).toNat * 65536 + (b[1]?.getD 0).toNat * 256 + (b[2]?.getD 0).toNat
/-- Bytes that are not just records. -/
def NoRecs (b : List UInt8) : Prop := ∀ l, Small l → b ≠ recs l

theorem length_sumd (x : List UInt8) : (sumd x).length = x.length + 4 := by simp [sumd, rowOf]
theorem length_recB (b : List UInt8) : (recB b).length = b.length + 7 := by simp [recB, length_sumd, headOf]
theorem recs_nil : recs [] = [] := rfl
theorem recs_cons (b : List UInt8) (l : List (List UInt8)) : recs (b :: l) = recB b ++ recs l := rfl
theorem recs_append (l m : List (List UInt8)) : recs (l ++ m) = recs l ++ recs m := by simp [recs]

theorem rowOf_inj {s t : Nat} (hs : s < 4294967296) (ht : t < 4294967296) (h : rowOf s = rowOf t) : s = t := by
  simp only [rowOf, List.cons.injEq, and_true] at h
  obtain ⟨h1, h2, h3, h4⟩ := h
  have e1 := congrArg UInt8.toNat h1
  have e2 := congrArg UInt8.toNat h2
  have e3 := congrArg UInt8.toNat h3
  have e4 := congrArg UInt8.toNat h4
  simp only [UInt8.toNat_ofNat'] at e1 e2 e3 e4
  omega

theorem size3_head {n : Nat} (h : n ≤ 16384) (t : List UInt8) : size3 (headOf n ++ t) = n := by
  simp only [size3, headOf, List.cons_append, List.nil_append, List.getElem?_cons_zero, List.getElem?_cons_succ, Option.getD_some, UInt8.toNat_ofNat']
  omega

theorem size3_recB {b : List UInt8} (h : b.length ≤ 16384) (t : List UInt8) : size3 (recB b ++ t) = b.length := by
  unfold recB sumd
  rw [List.append_assoc, List.append_assoc, size3_head h]

theorem recB_body (b t : List UInt8) : ((recB b ++ t).drop 3).take b.length = b := by
  unfold recB sumd headOf
  simp

theorem recB_take (b t : List UInt8) : (recB b ++ t).take (b.length + 7) = recB b := by
  rw [← length_recB, List.take_left]

theorem recB_inj {b c x y : List UInt8} (hb : b.length ≤ 16384) (hc : c.length ≤ 16384) (h : recB b ++ x = recB c ++ y) : b = c ∧ x = y := by
  have hl : b.length = c.length := by rw [← size3_recB hb x, h, size3_recB hc y]
  have h1 := recB_body b x
  rw [h, hl, recB_body] at h1
  exact ⟨h1.symm, (List.append_inj h (by rw [length_recB, length_recB, hl])).2⟩

theorem recs_prefix : ∀ {l m : List (List UInt8)} {t : List UInt8}, Small l → Small m → recs l ++ t = recs m → ∃ m', m = l ++ m' ∧ t = recs m' := by
  intro l
  induction l with
  | nil => intro m t _ _ h; exact ⟨m, rfl, by simpa [recs_nil] using h⟩
  | cons b l ih =>
    intro m t hl hm h
    cases m with
    | nil =>
      have := congrArg List.length h
      simp [recs_cons, length_recB, recs_nil] at this
    | cons c m =>
      rw [recs_cons, recs_cons, List.append_assoc] at h
      obtain ⟨rfl, h2⟩ := recB_inj (hl _ List.mem_cons_self) (hm _ List.mem_cons_self) h
      obtain ⟨m', rfl, h3⟩ := ih (fun x hx => hl x (List.mem_cons_of_mem _ hx)) (fun x hx => hm x (List.mem_cons_of_mem _ hx)) h2
      exact ⟨m', rfl, h3⟩

/-- The first record of bytes that are such. -/
theorem recs_first {b : List UInt8} (hb : b ≠ []) {l : List (List UInt8)} (hl : Small l) (h : b = recs l) : ∃ c m, l = c :: m ∧ c.length ≤ 16384 ∧ b = recB c ++ recs m := by
  cases l with
  | nil => exact absurd h hb
  | cons c m => exact ⟨c, m, rfl, hl _ List.mem_cons_self, h⟩

theorem noRecs_short {b : List UInt8} (hb : b ≠ []) (h : b.length < 7) : NoRecs b := fun l hl e => by
  obtain ⟨c, m, rfl, _, rfl⟩ := recs_first hb hl e
  simp [length_recB] at h
  omega
theorem noRecs_great {b : List UInt8} (hb : b ≠ []) (h : 16384 < size3 b) : NoRecs b := fun l hl e => by
  obtain ⟨c, m, rfl, hc, rfl⟩ := recs_first hb hl e
  rw [size3_recB hc] at h
  omega
theorem noRecs_cut {b : List UInt8} (hb : b ≠ []) (h : b.length < size3 b + 7) : NoRecs b := fun l hl e => by
  obtain ⟨c, m, rfl, hc, rfl⟩ := recs_first hb hl e
  rw [size3_recB hc] at h
  simp [length_recB] at h
  omega
theorem noRecs_other {b : List UInt8} (hb : b ≠ []) (h : recB ((b.drop 3).take (size3 b)) ≠ b.take (size3 b + 7)) : NoRecs b := fun l hl e => by
  obtain ⟨c, m, rfl, hc, rfl⟩ := recs_first hb hl e
  rw [size3_recB hc, recB_body, recB_take] at h
  exact h rfl

/-- Bytes that begin with a record. -/
theorem rec_first {b : List UInt8} (h : recB ((b.drop 3).take (size3 b)) = b.take (size3 b + 7)) : b = recB ((b.drop 3).take (size3 b)) ++ b.drop (size3 b + 7) := by
  rw [h, List.take_append_drop]

theorem noRecs_behind {l : List (List UInt8)} {t : List UInt8} (hl : Small l) (h : NoRecs t) : NoRecs (recs l ++ t) := fun m hm e => by
  obtain ⟨m', rfl, h2⟩ := recs_prefix hl hm e
  exact h m' (fun b hb => hm b (List.mem_append_right _ hb)) h2

theorem Small.append {l m : List (List UInt8)} (hl : Small l) (hm : Small m) : Small (l ++ m) := fun b hb => by
  rcases List.mem_append.1 hb with h | h
  · exact hl b h
  · exact hm b h
theorem Small.one {b : List UInt8} (h : b.length ≤ 16384) : Small [b] := fun c hc => by simp at hc; rw [hc]; exact h
theorem Small.take {l : List (List UInt8)} (hl : Small l) (i : Nat) : Small (l.take i) := fun b hb => hl b (List.mem_of_mem_take hb)

theorem recs_inj {l m : List (List UInt8)} (hl : Small l) (hm : Small m) (h : recs l = recs m) : l = m := by
  obtain ⟨m', rfl, h2⟩ := recs_prefix (t := []) hl hm (by simpa using h)
  cases m' with
  | nil => simp
  | cons c m' =>
    have := congrArg List.length h2
    simp [recs_cons, length_recB] at this
    omega

/-- Bytes cut off at n are records just where n is an end. -/
theorem recs_take {l : List (List UInt8)} (hl : Small l) {n : Nat} (hn : n ≤ (recs l).length) :
    (∃ i, i ≤ l.length ∧ n = (recs (l.take i)).length ∧ (recs l).take n = recs (l.take i)) ∨ (NoRecs ((recs l).take n) ∧ ∀ i, i ≤ l.length → n ≠ (recs (l.take i)).length) := by
  by_cases h : ∃ i, i ≤ l.length ∧ n = (recs (l.take i)).length
  · obtain ⟨i, hi, e⟩ := h
    refine .inl ⟨i, hi, e, ?_⟩
    have : recs l = recs (l.take i) ++ recs (l.drop i) := by rw [← recs_append, List.take_append_drop]
    rw [e, this, List.take_left]
  · refine .inr ⟨fun m hm e => ?_, fun i hi e => h ⟨i, hi, e⟩⟩
    have h2 : recs m ++ (recs l).drop n = recs l := by rw [← e, List.take_append_drop]
    obtain ⟨m', rfl, _⟩ := recs_prefix hm hl h2
    refine h ⟨m.length, by simp, ?_⟩
    rw [List.take_left, ← e, List.length_take]
    omega

/-- A record of which bits are turned, all within 32 of its bytes' bits, is none. -/
theorem turned_none {a b : List UInt8} (ha : a.length ≤ 16384) (hl : b.length = a.length) {k : Nat} (hk : k < 8 * a.length) (h0 : ∀ p, p < k → bitOf (diff a b) p = false) (h1 : bitOf (diff a b) k = true)
    (h2 : ∀ p, k + 32 ≤ p → p < 8 * a.length → bitOf (diff a b) p = false) : NoRecs (headOf a.length ++ b ++ rowOf (crc (headOf a.length ++ a))) := fun l hls e => by
  have hne : headOf a.length ++ b ++ rowOf (crc (headOf a.length ++ a)) ≠ [] := by simp [headOf]
  obtain ⟨c, m, rfl, hc, e2⟩ := recs_first hne hls e
  have hs := congrArg size3 e2
  rw [size3_recB hc, List.append_assoc, size3_head ha] at hs
  have e3 : headOf a.length ++ b ++ rowOf (crc (headOf a.length ++ a)) = headOf c.length ++ c ++ (rowOf (crc (headOf c.length ++ c)) ++ recs m) := by
    rw [e2, recB, sumd, List.append_assoc]
  rw [← hs] at e3
  obtain ⟨e4, e5⟩ := List.append_inj e3 (by simp [hl, hs])
  have e6 := (List.append_inj e4 rfl).2
  subst e6
  have e7 := (List.append_inj (s₁ := rowOf (crc (headOf a.length ++ a))) (t₁ := []) (s₂ := rowOf (crc (headOf a.length ++ b))) (t₂ := recs m) (by simpa using e5) (by simp [rowOf])).1
  have e8 := rowOf_inj (crc_lt _) (crc_lt _) e7
  have hd : diff (headOf a.length ++ a) (headOf a.length ++ b) = [0, 0, 0] ++ diff a b := by simp [diff, headOf]
  have hb : ∀ p, bitOf ([0, 0, 0] ++ diff a b) (24 + p) = bitOf (diff a b) p := fun p => by
    unfold bitOf
    rw [show (24 + p) / 8 = 3 + p / 8 by omega, show (24 + p) % 8 = p % 8 by omega, List.getElem?_append_right (by simp)]
    simp
  refine crc_burst (a := headOf a.length ++ a) (b := headOf a.length ++ b) (k := 24 + k) (by simp [hl]) (by simp [headOf]; omega) ?_ ?_ ?_ e8
  · intro p hp
    rw [hd]
    by_cases h24 : p < 24
    · unfold bitOf
      rw [List.getElem?_append_left (by simp; omega)]
      have : p / 8 = 0 ∨ p / 8 = 1 ∨ p / 8 = 2 := by omega
      rcases this with h | h | h <;> rw [h] <;> simp
    · obtain ⟨q, rfl⟩ : ∃ q, p = 24 + q := ⟨p - 24, by omega⟩
      rw [hb]; exact h0 q (by omega)
  · rw [hd, hb]; exact h1
  · intro p hp1 hp2
    simp only [headOf, List.length_append, List.length_cons, List.length_nil] at hp2
    obtain ⟨q, rfl⟩ : ∃ q, p = 24 + q := ⟨p - 24, by omega⟩
    rw [hd, hb]
    exact h2 q (by omega) (by omega)
end Go.Proofs.Ytbnflbkaogpnbaa
