/- SectorKeeps, on the plain model. -/
import Derived.Test.YtbnflbkaogpnbaaP0
namespace Go.Proofs.Ytbnflbkaogpnbaa

theorem backs_at (keep : List Int) (f : Nat → Blk) (i : Nat) : ∀ (r : List Nat) (k : Nat) (s : List Blk), (Dev.backs keep f k r s)[i]? = s[i]? ∨ (i ∈ r ∧ (Dev.backs keep f k r s)[i]? = some (f i)) := by
  intro r
  induction r with
  | nil => intro k s; exact .inl rfl
  | cons x r ih =>
    intro k s
    rw [Dev.backs]
    rcases ih (k + 1) (if Dev.lost keep k then s.set x (f x) else s) with h | ⟨h1, h2⟩
    · rw [h]
      split
      · by_cases hx : x = i
        · subst hx
          by_cases hl : x < s.length
          · right; exact ⟨List.mem_cons_self, by rw [List.getElem?_set_self hl]⟩
          · left; rw [List.getElem?_eq_none (by simp; omega), List.getElem?_eq_none (by omega)]
        · left; rw [List.getElem?_set_ne hx]
      · exact .inl rfl
    · exact .inr ⟨List.mem_cons_of_mem _ h1, h2⟩

/-- What a device has behind k deeds, of which each counts: what was written last, and what was sure. -/
structure KInv (k : Nat) (d : Dev) (now sure : List UInt8) : Prop where
  len : now.length = 6
  slen : sure.length = 6
  secs : d.secs = now.map fullB
  dead : d.dead = false
  fail : d.fail = -1
  till : d.till = -1
  works : d.works ≤ k
  had : ∀ i b, Dev.look d.sure i = some b → b = fullB (sure[i]?.getD 0)
  same : ∀ i, i < 6 → Dev.look d.sure i = none → now[i]?.getD 0 = sure[i]?.getD 0

theorem fullB_zero : zeros = fullB 0 := rfl

theorem KInv.start : KInv 0 (Dev.new 6) (List.replicate 6 0) (List.replicate 6 0) where
  len := rfl
  slen := rfl
  secs := rfl
  dead := rfl
  fail := rfl
  till := rfl
  works := Int.le_refl _
  had := fun i b h => by simp [Dev.new, Dev.look] at h
  same := fun i _ _ => rfl

theorem KInv.flush {k : Nat} {d : Dev} {now sure : List UInt8} (h : KInv k d now sure) : ∃ d', d.flush = (d', 0) ∧ KInv (k + 1) d' now now := by
  refine ⟨{ d with sure := [] }.counted, by simp [Dev.flush, h.dead, h.fail, h.till], ?_⟩
  exact ⟨h.len, h.len, h.secs, h.dead, by show max (d.fail - 1) (-1) = -1; rw [h.fail]; decide, by show max (d.till - 1) (-1) = -1; rw [h.till]; decide, by have := h.works; simp only [Dev.counted]; omega, fun i b hb => by simp [Dev.counted, Dev.look] at hb, fun _ _ _ => rfl⟩

theorem look_append (s : List (Nat × Blk)) (i j : Nat) (b : Blk) (h : Dev.look s i = none) : Dev.look (s ++ [(i, b)]) j = if j = i then some b else Dev.look s j := by
  unfold Dev.look at h ⊢
  rw [List.find?_append]
  by_cases hj : j = i
  · subst hj
    simp only [Option.map_eq_none_iff] at h
    simp [h]
  · have : ¬ i = j := fun e => hj e.symm
    simp [hj, this]

theorem KInv.at_zero {k : Nat} {d : Dev} {now sure : List UInt8} (h : KInv k d now sure) {i : Nat} (hi : i < 6) : d.at_ (i : Int) = 0 := by
  have : d.secs.length = 6 := by rw [h.secs]; simpa using h.len
  simp [Dev.at_, h.dead]
  omega

theorem KInv.write {k : Nat} {d : Dev} {now sure : List UInt8} (h : KInv k d now sure) {i : Nat} (hi : i < 6) (x : UInt8) : ∃ d', d.write (i : Int) (fullB x) = (d', 0) ∧ KInv (k + 1) d' (now.set i x) sure := by
  have hw := write_ok (d := d) (i := (i : Int)) (b := fullB x) (h.at_zero hi) (length_fullB x) (by rw [h.till]; decide) (by rw [h.fail]; decide)
  refine ⟨_, hw, ?_⟩
  simp only [Int.toNat_natCast]
  have hn : now[i]? = some (now[i]?.getD 0) := by rw [List.getElem?_eq_getElem (by rw [h.len]; exact hi)]; rfl
  have hs : d.secs[i]? = some (fullB (now[i]?.getD 0)) := by rw [h.secs, List.getElem?_map, hn]; rfl
  refine ⟨by simpa using h.len, h.slen, ?_, h.dead, by show max (d.fail - 1) (-1) = -1; rw [h.fail]; decide, by show max (d.till - 1) (-1) = -1; rw [h.till]; decide, by have := h.works; simp only [Dev.counted, Dev.midst]; omega, ?_, ?_⟩
  · simp only [Dev.counted, Dev.midst, h.secs, List.map_set]
  · intro j b hb
    simp only [Dev.counted, Dev.midst] at hb
    split at hb
    · exact h.had j b hb
    · rename_i hnone
      have hnone' : Dev.look d.sure i = none := by
        cases hl : Dev.look d.sure i with
        | none => rfl
        | some v => rw [hl] at hnone; simp at hnone
      rw [look_append _ _ _ _ hnone'] at hb
      split at hb
      · rename_i hj
        subst hj
        rw [hs] at hb
        simp only [Option.getD_some, Option.some.injEq] at hb
        rw [← hb, h.same j hi hnone']
      · exact h.had j b hb
  · intro j hj hb
    simp only [Dev.counted, Dev.midst] at hb
    have hne : j ≠ i := by
      rintro rfl
      split at hb
      · rename_i h1; rw [hb] at h1; simp at h1
      · rename_i hnone
        have hnone' : Dev.look d.sure j = none := by
          cases hl : Dev.look d.sure j with
          | none => rfl
          | some v => rw [hl] at hnone; simp at hnone
        rw [look_append _ _ _ _ hnone', if_pos rfl] at hb
        cases hb
    have hb' : Dev.look d.sure j = none := by
      split at hb
      · exact hb
      · rename_i hnone
        have hnone' : Dev.look d.sure i = none := by
          cases hl : Dev.look d.sure i with
          | none => rfl
          | some v => rw [hl] at hnone; simp at hnone
        rw [look_append _ _ _ _ hnone', if_neg hne] at hb
        exact hb
    rw [List.getElem?_set_ne (fun e => hne e.symm)]
    exact h.same j hj hb'

/-- The power has gone, and the device is booted: each sector has what it was written last, or what was sure. -/
theorem KInv.ends {k : Nat} {d : Dev} {now sure : List UInt8} (h : KInv k d now sure) (keep : List Int) : ∃ d', d.crash keep = (d', 0) ∧ d'.boot.secs.length = 6 ∧ d'.boot.dead = false ∧
    ∀ i, i < 6 → d'.boot.secs[i]? = some (fullB (now[i]?.getD 0)) ∨ d'.boot.secs[i]? = some (fullB (sure[i]?.getD 0)) := by
  refine ⟨d.gone keep, by simp [Dev.crash, h.dead], by simp [Dev.boot, Dev.gone, Dev.length_backs, h.secs, h.len], rfl, fun i hi => ?_⟩
  show (Dev.backs keep _ 0 d.keys d.secs)[i]? = _ ∨ (Dev.backs keep _ 0 d.keys d.secs)[i]? = _
  have hn : now[i]? = some (now[i]?.getD 0) := by rw [List.getElem?_eq_getElem (by rw [h.len]; exact hi)]; rfl
  have hs : d.secs[i]? = some (fullB (now[i]?.getD 0)) := by rw [h.secs, List.getElem?_map, hn]; rfl
  rcases backs_at keep (fun i => (Dev.look d.sure i).getD []) i d.keys 0 d.secs with h1 | ⟨h1, h2⟩
  · left; rw [h1, hs]
  · right
    rw [h2]
    obtain ⟨b, hb⟩ := Dev.look_of_key (Dev.mem_keys.1 h1)
    rw [hb, h.had i b hb]
    rfl
end Go.Proofs.Ytbnflbkaogpnbaa
