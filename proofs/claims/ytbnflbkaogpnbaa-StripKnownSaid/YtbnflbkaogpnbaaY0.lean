/- The document's device and the plain model: one and the same. -/
import Derived.Test.YtbnflbkaogpnbaaX6
namespace Go.Proofs.Ytbnflbkaogpnbaa

/-- s is d. -/
structure RS.Is (s : RS) (d : Dev) : Prop where
  n : s.n = d.secs.length
  now : ∀ i, i < s.n → d.secs[i]? = some (s.now i)
  sure : ∀ i, i < s.n → s.sure i = (Dev.look d.sure i).getD (s.now i)
  wrote : ∀ i, i < s.n → s.wrote i = (Dev.look d.sure i).isSome
  fail : s.fail = d.fail
  keep : s.keep = d.keep
  till : s.till = d.till
  works : s.works = d.works
  dead : s.dead = d.dead
  refuses : s.refuses = (s.till == 0)

theorem backs_snoc (keep : List Int) (f : Nat → Blk) (i : Nat) : ∀ (r : List Nat) (k : Nat) (s : List Blk),
    Dev.backs keep f k (r ++ [i]) s = if Dev.lost keep (k + r.length) then (Dev.backs keep f k r s).set i (f i) else Dev.backs keep f k r s := by
  intro r
  induction r with
  | nil => intro k s; simp [Dev.backs]
  | cons x r ih =>
    intro k s
    rw [List.cons_append, Dev.backs, ih, Dev.backs, List.length_cons]
    have e : k + 1 + r.length = k + (r.length + 1) := by omega
    rw [e]

theorem filter_lt_succ (l : List Nat) (h : l.Pairwise (· < ·)) (i : Nat) : l.filter (· < i + 1) = l.filter (· < i) ++ (if i ∈ l then [i] else []) := by
  induction l with
  | nil => rfl
  | cons x r ih =>
    obtain ⟨h1, h2⟩ := List.pairwise_cons.1 h
    have hi := ih h2
    by_cases hx : x < i
    · have e1 : decide (x < i + 1) = true := decide_eq_true (by omega)
      have e2 : decide (x < i) = true := decide_eq_true hx
      rw [List.filter_cons_of_pos (by simpa using e1), List.filter_cons_of_pos (by simpa using e2), hi, List.cons_append]
      have : (i ∈ x :: r) ↔ i ∈ r := by simp; omega
      simp only [this]
    · by_cases hxi : x = i
      · subst hxi
        rw [List.filter_cons_of_pos (by simp), List.filter_cons_of_neg (by simp)]
        have e3 : r.filter (· < x + 1) = [] := by
          rw [List.filter_eq_nil_iff]
          intro a ha
          have := h1 a ha
          simp; omega
        have e4 : r.filter (· < x) = [] := by
          rw [List.filter_eq_nil_iff]
          intro a ha
          have := h1 a ha
          simp; omega
        rw [e3, e4]
        simp
      · rw [List.filter_cons_of_neg (by simp; omega), List.filter_cons_of_neg (by simp; omega), hi]
        have : (i ∈ x :: r) ↔ i ∈ r := by simp; omega
        simp only [this]

theorem keys_pairwise {d : Dev} (h : d.Wf) : d.keys.Pairwise (· < ·) := by
  have h1 : d.keys.Pairwise (· ≤ ·) := by
    have := List.pairwise_mergeSort (le := fun a b : Nat => decide (a ≤ b)) (fun a b c h1 h2 => by simp at *; omega) (fun a b => by simp; omega) (d.sure.map (·.1))
    exact this.imp (fun h => by simpa using h)
  have h2 : d.keys.Nodup := (List.mergeSort_perm _ _).nodup_iff.2 h.nodup
  exact (h1.and h2).imp (fun ⟨a, b⟩ => Nat.lt_of_le_of_ne a b)

/-- Where the loop of gone is. -/
structure GoneIs (s : RS) (d : Dev) (keep : List Int) (i : Nat) (g : RS) (k : Nat) : Prop where
  count : k = (d.keys.filter (· < i)).length
  now : ∀ j, j < s.n → (Dev.backs keep (fun i => (Dev.look d.sure i).getD []) 0 (d.keys.filter (· < i)) d.secs)[j]? = some (g.now j)
  low : ∀ j, j < i → g.sure j = g.now j ∧ g.wrote j = false
  high : ∀ j, i ≤ j → g.now j = s.now j ∧ g.sure j = s.sure j ∧ g.wrote j = s.wrote j
  rest : g.n = s.n ∧ g.keep = s.keep ∧ g.works = s.works

theorem goneIs {s : RS} {d : Dev} (h : s.Is d) (hw : d.Wf) (keep : List Int) : ∀ i, i ≤ s.n → GoneIs s d keep i (s.goneTo keep i).1 (s.goneTo keep i).2 := by
  intro i
  induction i with
  | zero =>
    intro _
    have e : d.keys.filter (· < 0) = [] := by simp
    exact ⟨by rw [e]; rfl, fun j hj => by rw [e]; exact h.now j hj, fun j hj => by omega, fun j _ => ⟨rfl, rfl, rfl⟩, rfl, rfl, rfl⟩
  | succ i ih =>
    intro hi
    have hp := ih (by omega)
    have hgo : s.goneTo keep (i + 1) = ((s.goneTo keep i).1.lose keep i (s.goneTo keep i).2, if (s.goneTo keep i).1.wrote i then (s.goneTo keep i).2 + 1 else (s.goneTo keep i).2) := rfl
    obtain ⟨g, k, hg⟩ : ∃ g k, s.goneTo keep i = (g, k) := ⟨_, _, rfl⟩
    rw [hg] at hp hgo
    rw [hgo]
    simp only at hp ⊢
    have hh := hp.high i (Nat.le_refl _)
    have hwi := h.wrote i (by omega)
    have hfil := filter_lt_succ d.keys (keys_pairwise hw) i
    by_cases hm : i ∈ d.keys
    · obtain ⟨b, hb⟩ := Dev.look_of_key (Dev.mem_keys.1 hm)
      have hwr : g.wrote i = true := by rw [hh.2.2, hwi, hb]; rfl
      have hsb : g.sure i = b := by rw [hh.2.1, h.sure i (by omega), hb]; rfl
      rw [if_pos hm] at hfil
      rw [if_pos hwr]
      refine ⟨by rw [hfil, List.length_append, ← hp.count]; rfl, fun j hj => ?_, fun j hj => ?_, fun j hj => ?_, ?_⟩
      · rw [hfil, backs_snoc, Nat.zero_add, ← hp.count]
        unfold RS.lose RS.back
        rw [hwr, Bool.true_and]
        by_cases hl : Dev.lost keep k = true
        · rw [if_pos hl, if_pos hl]
          simp only
          by_cases hji : j = i
          · subst hji
            have hlen : j < (Dev.backs keep (fun i => (Dev.look d.sure i).getD []) 0 (d.keys.filter (· < j)) d.secs).length := by
              rw [Dev.length_backs, ← h.n]; omega
            rw [List.getElem?_set_self hlen, upd_self, hsb, hb]
            rfl
          · rw [List.getElem?_set_ne (fun e => hji e.symm), upd_ne _ _ hji]
            exact hp.now j hj
        · rw [if_neg hl, if_neg hl]
          exact hp.now j hj
      · unfold RS.lose
        by_cases hji : j = i
        · subst hji
          exact ⟨upd_self _ _ _, upd_self _ _ _⟩
        · have hlow := hp.low j (by omega)
          simp only
          rw [upd_ne _ _ hji, upd_ne _ _ hji]
          unfold RS.back
          split
          · simp only; rw [upd_ne _ _ hji]; exact hlow
          · exact hlow
      · have hji : j ≠ i := by omega
        have hhigh := hp.high j (by omega)
        unfold RS.lose
        simp only
        rw [upd_ne _ _ hji, upd_ne _ _ hji]
        unfold RS.back
        split
        · simp only; rw [upd_ne _ _ hji]; exact hhigh
        · exact hhigh
      · unfold RS.lose RS.back
        split <;> exact hp.rest
    · have hbn : Dev.look d.sure i = none := Dev.look_none.2 (fun e => hm (Dev.mem_keys.2 e))
      have hwr : g.wrote i = false := by rw [hh.2.2, hwi, hbn]; rfl
      have hsb : g.sure i = g.now i := by rw [hh.2.1, hh.1, h.sure i (by omega), hbn]; rfl
      rw [if_neg hm, List.append_nil] at hfil
      have hbk : g.back keep i k = g := by unfold RS.back; rw [hwr]; rfl
      rw [if_neg (by rw [hwr]; decide)]
      refine ⟨by rw [hfil]; exact hp.count, fun j hj => by rw [hfil]; unfold RS.lose; rw [hbk]; exact hp.now j hj, fun j hj => ?_, fun j hj => ?_, by unfold RS.lose; rw [hbk]; exact hp.rest⟩
      · unfold RS.lose
        rw [hbk]
        by_cases hji : j = i
        · subst hji
          exact ⟨upd_self _ _ _, upd_self _ _ _⟩
        · have hlow := hp.low j (by omega)
          simp only
          rw [upd_ne _ _ hji, upd_ne _ _ hji]
          exact hlow
      · have hji : j ≠ i := by omega
        have hhigh := hp.high j (by omega)
        unfold RS.lose
        rw [hbk]
        simp only
        rw [upd_ne _ _ hji, upd_ne _ _ hji]
        exact hhigh

theorem RS.Is.gone {s : RS} {d : Dev} (h : s.Is d) (hw : d.Wf) (keep : List Int) : (s.gone keep).Is (d.gone keep) := by
  have hp := goneIs h hw keep s.n (Nat.le_refl _)
  have hall : d.keys.filter (· < s.n) = d.keys := by
    rw [List.filter_eq_self]
    intro a ha
    obtain ⟨b, hb⟩ := Dev.look_of_key (Dev.mem_keys.1 ha)
    have := hw.keyIn _ (Dev.look_mem hb)
    simp only at this
    rw [h.n]
    simpa using this
  have hnow := hp.now
  rw [hall] at hnow
  exact {
    n := by show (s.goneTo keep s.n).1.n = _; rw [hp.rest.1, h.n]; simp [Dev.gone, Dev.length_backs]
    now := fun i hi => hnow i (by rw [← hp.rest.1]; exact hi)
    sure := fun i hi => (hp.low i (by rw [← hp.rest.1]; exact hi)).1
    wrote := fun i hi => (hp.low i (by rw [← hp.rest.1]; exact hi)).2
    fail := rfl
    keep := hp.rest.2.1.trans h.keep
    till := rfl
    works := hp.rest.2.2.trans h.works
    dead := rfl
    refuses := rfl }
end Go.Proofs.Ytbnflbkaogpnbaa
