/- A strip behind a fall. -/
import Derived.Test.YtbnflbkaogpnbaaS3
namespace Go.Proofs.Ytbnflbkaogpnbaa

theorem flatten_at : ∀ (s : List Blk), (∀ b ∈ s, b.length = 128) → ∀ p, s.flatten[p]? = (s[p / 128]?.getD [])[p % 128]? := by
  intro s
  induction s with
  | nil => intro _ p; simp
  | cons b s ih =>
    intro h p
    have hb := h b List.mem_cons_self
    rw [List.flatten_cons]
    by_cases hp : p < 128
    · rw [List.getElem?_append_left (by omega), show p / 128 = 0 by omega, show p % 128 = p by omega]
      rfl
    · rw [List.getElem?_append_right (by omega), ih (fun c hc => h c (List.mem_cons_of_mem _ hc)), hb, show p / 128 = (p - 128) / 128 + 1 by omega, List.getElem?_cons_succ, show (p - 128) % 128 = p % 128 by omega]

/-- Sectors out of two devices that have the same up to there. -/
theorem mixed {s0 s1 s2 : List Blk} (h0 : ∀ b ∈ s0, b.length = 128) (h1 : ∀ b ∈ s1, b.length = 128) (h2 : ∀ b ∈ s2, b.length = 128) (hm : ∀ i : Nat, s2[i]? = s1[i]? ∨ s2[i]? = s0[i]?) {e : Nat} (h : s1.flatten.take e = s0.flatten.take e) :
    s2.flatten.take e = s0.flatten.take e := by
  apply List.ext_getElem?
  intro p
  rw [List.getElem?_take, List.getElem?_take]
  by_cases hp : p < e
  · rw [if_pos hp, if_pos hp]
    have hq := congrArg (fun l => l[p]?) h
    simp only [List.getElem?_take, hp, if_true] at hq
    rw [flatten_at s2 h2]
    rcases hm (p / 128) with h3 | h3
    · rw [h3, ← flatten_at s1 h1, hq]
    · rw [h3, ← flatten_at s0 h0]
  · rw [if_neg hp, if_neg hp]

/-- The power has gone, and the device is booted. -/
theorem Dev.Sure.ends {d : Dev} {q : List Blk} (h : d.Sure q) (hd : d.Calm) (hq : ∀ b ∈ q, b.length = 128) (keep : List Int) :
    d.crash keep = (d.gone keep, 0) ∧ (d.gone keep).boot.Calm ∧ (d.gone keep).boot.secs.length = d.secs.length ∧ (d.gone keep).boot.works = d.works ∧
    ∀ i : Nat, (d.gone keep).boot.secs[i]? = d.secs[i]? ∨ (d.gone keep).boot.secs[i]? = q[i]? := by
  have hm : ∀ i : Nat, (d.gone keep).boot.secs[i]? = d.secs[i]? ∨ (d.gone keep).boot.secs[i]? = q[i]? := fun i => by
    show (Dev.backs keep _ 0 d.keys d.secs)[i]? = _ ∨ (Dev.backs keep _ 0 d.keys d.secs)[i]? = _
    rcases backs_at keep (fun i => (Dev.look d.sure i).getD []) i d.keys 0 d.secs with h1 | ⟨h1, h2⟩
    · exact .inl h1
    · right
      rw [h2]
      obtain ⟨b, hb⟩ := Dev.look_of_key (Dev.mem_keys.1 h1)
      have h3 := h.2 i
      rw [hb] at h3 ⊢
      exact h3.2.symm
  have hl : (d.gone keep).boot.secs.length = d.secs.length := by simp [Dev.boot, Dev.gone, Dev.length_backs]
  refine ⟨by simp [Dev.crash, hd.dead], ⟨rfl, rfl, rfl, fun b hb => ?_⟩, hl, rfl, hm⟩
  obtain ⟨i, hi⟩ := List.getElem?_of_mem hb
  rcases hm i with h1 | h1
  · rw [hi] at h1; exact hd.size b (List.mem_of_getElem? h1.symm)
  · rw [hi] at h1; exact hq b (List.mem_of_getElem? h1.symm)

/-- What was there up to an end when it was flushed, and since, is there behind the fall. -/
theorem Dev.Sure.rows {d : Dev} {q : List Blk} (h : d.Sure q) (hd : d.Calm) (hq : ∀ b ∈ q, b.length = 128) (keep : List Int) {first e : Nat} (he : (d.bytesAt first).take e = (q.drop first).flatten.take e) :
    ((d.gone keep).boot.bytesAt first).take e = (d.bytesAt first).take e := by
  obtain ⟨h1, h2, h3, h4, h5⟩ := h.ends hd hq keep
  rw [he]
  refine mixed (s0 := q.drop first) (s1 := d.secs.drop first) (s2 := (d.gone keep).boot.secs.drop first) (fun b hb => hq b (List.mem_of_mem_drop hb)) (fun b hb => hd.size b (List.mem_of_mem_drop hb)) (fun b hb => h2.size b (List.mem_of_mem_drop hb)) (fun i => ?_) he
  rw [List.getElem?_drop, List.getElem?_drop, List.getElem?_drop]
  exact h5 _
end Go.Proofs.Ytbnflbkaogpnbaa
