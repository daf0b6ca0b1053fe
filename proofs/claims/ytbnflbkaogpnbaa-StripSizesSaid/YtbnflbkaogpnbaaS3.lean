/- A strip's Append on a device that neither fails nor refuses. -/
import Derived.Test.YtbnflbkaogpnbaaS2
namespace Go.Proofs.Ytbnflbkaogpnbaa

theorem chunks_nil : chunks [] = [] := rfl
theorem chunks_cons {b : List UInt8} (h : b ≠ []) : chunks b = b.take 128 :: chunks (b.drop 128) := by
  have hl : 0 < b.length := List.length_pos_iff.2 h
  unfold chunks
  rw [show (b.length + 127) / 128 = ((b.drop 128).length + 127) / 128 + 1 by rw [List.length_drop]; omega, List.range_succ_eq_map, List.map_cons, List.map_map]
  refine congr (congrArg List.cons (by simp)) (List.map_congr_left fun i _ => ?_)
  simp only [Function.comp, List.drop_drop]
  rw [show 128 * (i + 1) = 128 + 128 * i by omega]

theorem length_chunks (b : List UInt8) : (chunks b).length = (b.length + 127) / 128 := by simp [chunks]
theorem chunks_le {b c : List UInt8} (h : c ∈ chunks b) : c.length ≤ 128 := by
  simp only [chunks, List.mem_map] at h
  obtain ⟨i, _, rfl⟩ := h
  rw [List.length_take]
  omega

theorem chunks_flat : ∀ (n : Nat) (b : List UInt8), b.length ≤ n → ∃ z, ((chunks b).map pad).flatten = b ++ z := by
  intro n
  induction n with
  | zero =>
    intro b hb
    have : b = [] := List.length_eq_zero_iff.1 (by omega)
    subst this
    exact ⟨[], rfl⟩
  | succ n ih =>
    intro b hb
    by_cases h : b = []
    · subst h; exact ⟨[], rfl⟩
    · rw [chunks_cons h, List.map_cons, List.flatten_cons]
      by_cases hl : b.length ≤ 128
      · rw [List.drop_of_length_le hl, chunks_nil, List.take_of_length_le hl]
        exact ⟨List.replicate (128 - b.length) 0, by simp [pad]⟩
      · have hp : 0 < b.length := List.length_pos_iff.2 h
        obtain ⟨z, hz⟩ := ih (b.drop 128) (by rw [List.length_drop]; omega)
        refine ⟨z, ?_⟩
        have hpad : pad (b.take 128) = b.take 128 := by
          unfold pad
          rw [List.length_take, Nat.min_eq_left (by omega)]
          simp
        rw [hz, hpad, ← List.append_assoc, List.take_append_drop]

theorem flatten_len : ∀ (s : List Blk), (∀ b ∈ s, b.length = 128) → s.flatten.length = 128 * s.length := by
  intro s
  induction s with
  | nil => intro _; rfl
  | cons b s ih =>
    intro h
    rw [List.flatten_cons, List.length_append, ih (fun c hc => h c (List.mem_cons_of_mem _ hc)), h b List.mem_cons_self, List.length_cons]
    omega

/-- A strip on a device: its records, up to its end. -/
structure SInv (s : St) (d : Dev) (l : List (List UInt8)) : Prop where
  wf : s.Wf d
  last : s.last = ((d.bytesAt s.first).take s.fin).drop (s.fin - s.fin % 128)
  small : Small l
  rows : (d.bytesAt s.first).take s.fin = recs l

theorem SInv.fin {s : St} {d : Dev} {l : List (List UInt8)} (h : SInv s d l) (hs : ∀ b ∈ d.secs, b.length = 128) : s.fin = (recs l).length := by
  have h1 := congrArg List.length h.rows
  have h2 := flatten_len (d.secs.drop s.first) (fun b hb => hs b (List.mem_of_mem_drop hb))
  have h3 := h.wf.there; have h4 := h.wf.fin
  rw [List.length_take, Dev.bytesAt, h2, List.length_drop] at h1
  omega

/-- What an Append that fits does. -/
theorem SInv.append {s : St} {d : Dev} {l : List (List UInt8)} (h : SInv s d l) (hd : d.Calm) {b : List UInt8} (hb : b.length ≤ 16384) (hr : s.fin + (b.length + 7) ≤ 128 * s.many) :
    ∃ s' d', s.append d b = (s', d', 0) ∧ SInv s' d' (l ++ [b]) ∧ d'.Calm ∧ s'.first = s.first ∧ s'.many = s.many ∧ s'.fin = s.fin + (b.length + 7) ∧ d'.secs.length = d.secs.length ∧ d'.works ≤ d.works + 1 + (b.length + 7) ∧
      (∀ i, i < s.first + s.fin / 128 ∨ s.first + s.many ≤ i → d'.secs[i]? = d.secs[i]?) ∧ (d'.bytesAt s.first).take s.fin = (d.bytesAt s.first).take s.fin ∧ ∀ q, d.Sure q → d'.Sure q := by
  have hlr : (recB b).length = b.length + 7 := length_recB b
  have hll := h.wf.last
  have hth := h.wf.there
  have hal : (s.last ++ recB b).length = s.fin % 128 + (b.length + 7) := by rw [List.length_append, hll, hlr]
  have hcl : ((chunks (s.last ++ recB b)).map pad).length = (s.fin % 128 + (b.length + 7) + 127) / 128 := by rw [List.length_map, length_chunks, hal]
  obtain ⟨d', e1, e2, e3, e4, e5⟩ := Dev.Calm.writes ((chunks (s.last ++ recB b)).map pad) hd (q := s.first + s.fin / 128) (by rw [hcl]; omega) (fun c hc => by
    obtain ⟨c', h1, rfl⟩ := List.mem_map.1 hc
    exact length_pad (chunks_le h1))
  obtain ⟨z, hz⟩ := chunks_flat _ (s.last ++ recB b) (Nat.le_refl _)
  obtain ⟨X, hX⟩ : ∃ X, ((d.secs.take (s.first + s.fin / 128)).drop s.first) = X := ⟨_, rfl⟩
  have hXs : ∀ c ∈ X, c.length = 128 := fun c hc => hd.size c (by rw [← hX] at hc; exact List.mem_of_mem_take (List.mem_of_mem_drop hc))
  have hXl : X.length = s.fin / 128 := by rw [← hX, List.length_drop, List.length_take]; omega
  have hXf : X.flatten.length = 128 * (s.fin / 128) := by rw [flatten_len X hXs, hXl]
  have hold : d.bytesAt s.first = X.flatten ++ (d.secs.drop (s.first + s.fin / 128)).flatten := by
    unfold Dev.bytesAt
    conv => lhs; rw [← List.take_append_drop (s.first + s.fin / 128) d.secs]
    rw [List.drop_append_of_le_length (by rw [List.length_take]; omega), hX, List.flatten_append]
  obtain ⟨Z, hZ⟩ : ∃ Z, d'.bytesAt s.first = X.flatten ++ (s.last ++ recB b) ++ Z := by
    refine ⟨z ++ (d.secs.drop (s.first + s.fin / 128 + ((chunks (s.last ++ recB b)).map pad).length)).flatten, ?_⟩
    unfold Dev.bytesAt
    rw [e3, List.append_assoc, List.drop_append_of_le_length (by rw [List.length_take]; omega), hX, List.flatten_append, List.flatten_append, hz]
    simp [List.append_assoc]
  have hlast : s.last = (d.secs.drop (s.first + s.fin / 128)).flatten.take (s.fin % 128) := by
    have := h.last
    rw [hold, List.take_append, hXf, List.take_of_length_le (by rw [hXf]; omega), show s.fin - s.fin % 128 = X.flatten.length by rw [hXf]; omega, List.drop_left] at this
    rw [this]
    congr 1
    omega
  have hnow : X.flatten ++ s.last = (d.bytesAt s.first).take s.fin := by
    rw [hold, List.take_append, hXf, List.take_of_length_le (by rw [hXf]; omega), hlast]
    congr 2
    omega
  have htake : (d'.bytesAt s.first).take (s.fin + (b.length + 7)) = recs (l ++ [b]) := by
    have hlen : s.fin + (b.length + 7) = (X.flatten ++ (s.last ++ recB b)).length := by rw [List.length_append, hal, hXf]; omega
    rw [hZ, hlen, List.take_left, ← List.append_assoc, hnow, h.rows, recs_append, recs_cons, recs_nil, List.append_nil]
  refine ⟨{ s with fin := s.fin + (b.length + 7), last := (s.last ++ recB b).drop ((s.last ++ recB b).length - (s.last ++ recB b).length % 128) }, d', ?_, ⟨⟨h.wf.one, ?_, ?_, ?_⟩, ?_, h.small.append (Small.one hb), htake⟩, e2, rfl, rfl, rfl, ?_, ?_, ?_, ?_, e5⟩
  · unfold St.append
    rw [if_neg (by omega), if_neg (by omega)]
    simp only [e1, if_true]
  · rw [e3]; simp; omega
  · exact hr
  · rw [List.length_drop, hal]
    show _ = (s.fin + (b.length + 7)) % 128
    omega
  · show (s.last ++ recB b).drop _ = ((d'.bytesAt s.first).take (s.fin + (b.length + 7))).drop (s.fin + (b.length + 7) - (s.fin + (b.length + 7)) % 128)
    have hlen : s.fin + (b.length + 7) = (X.flatten ++ (s.last ++ recB b)).length := by rw [List.length_append, hal, hXf]; omega
    have e6 : (d'.bytesAt s.first).take (s.fin + (b.length + 7)) = X.flatten ++ (s.last ++ recB b) := by rw [hZ, hlen, List.take_left]
    rw [e6, show s.fin + (b.length + 7) - (s.fin + (b.length + 7)) % 128 = X.flatten.length + ((s.last ++ recB b).length - (s.last ++ recB b).length % 128) by rw [hXf, hal]; omega, ← List.drop_drop, List.drop_left]
  · rw [e3]
    simp only [List.length_append, List.length_take, List.length_drop, hcl]
    omega
  · rw [e4, hcl]; omega
  · intro i hi
    rw [e3]
    rcases hi with hi | hi
    · rw [List.append_assoc, List.getElem?_append_left (by rw [List.length_take]; omega), List.getElem?_take, if_pos hi]
    · rw [List.getElem?_append_right (by rw [List.length_append, List.length_take, hcl]; omega), List.getElem?_drop]
      congr 1
      rw [List.length_append, List.length_take, hcl]
      omega
  · rw [hZ, List.append_assoc, List.append_assoc, ← List.append_assoc, hnow]
    have : ((d.bytesAt s.first).take s.fin).length = s.fin := by
      rw [← hnow, List.length_append, hXf, hll]; omega
    rw [List.take_append_of_le_length (by omega), List.take_of_length_le (by omega)]
end Go.Proofs.Ytbnflbkaogpnbaa
