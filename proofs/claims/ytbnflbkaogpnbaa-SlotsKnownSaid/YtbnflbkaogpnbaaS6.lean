/- A strip's Append on a device that may fail or refuse. No program in sight. -/
import Derived.Test.YtbnflbkaogpnbaaSA
namespace Go.Proofs.Ytbnflbkaogpnbaa
set_option linter.unusedVariables false

/-- A device that is alive. -/
structure Dev.Live (d : Dev) : Prop where
  dead : d.dead = false
  size : ∀ b ∈ d.secs, b.length = 128

theorem Dev.Calm.live {d : Dev} (h : d.Calm) : d.Live := ⟨h.dead, h.size⟩
theorem Dev.Live.calm {d : Dev} (h : d.Live) (h1 : d.fail = -1) (h2 : d.till = -1) : d.Calm := ⟨h.dead, h1, h2, h.size⟩

/-- Sectors out of two rows of them. -/
structure Mixed (m x q : List Blk) : Prop where
  len : m.length = x.length
  at_ : ∀ i : Nat, m[i]? = x[i]? ∨ m[i]? = q[i]?

theorem Mixed.size {m x q : List Blk} (h : Mixed m x q) (hx : ∀ b ∈ x, b.length = 128) (hq : ∀ b ∈ q, b.length = 128) : ∀ b ∈ m, b.length = 128 := fun b hb => by
  obtain ⟨i, hi⟩ := List.getElem?_of_mem hb
  rcases h.at_ i with h1 | h1
  · rw [hi] at h1; exact hx b (List.mem_of_getElem? h1.symm)
  · rw [hi] at h1; exact hq b (List.mem_of_getElem? h1.symm)

theorem Dev.Sure.midst {d : Dev} {s : List Blk} (h : d.Sure s) (hs : ∀ b ∈ d.secs, b.length = 128) {i : Nat} (hi : i < d.secs.length) {b : Blk} (hb : b.length = 128) : (d.midst i b).Sure s :=
  (Dev.Calm.write (d := { d with dead := false, fail := -1, till := -1 }) ⟨rfl, rfl, rfl, hs⟩ hi hb).2.2.2.2 s h

theorem Dev.Sure.gone {d : Dev} {q : List Blk} (h : d.Sure q) (keep : List Int) : Mixed (d.gone keep).secs d.secs q := by
  refine ⟨by simp [Dev.gone, Dev.length_backs], fun i => ?_⟩
  show (Dev.backs keep _ 0 d.keys d.secs)[i]? = _ ∨ (Dev.backs keep _ 0 d.keys d.secs)[i]? = _
  rcases backs_at keep (fun i => (Dev.look d.sure i).getD []) i d.keys 0 d.secs with h1 | ⟨h1, h2⟩
  · exact .inl h1
  · right
    rw [h2]
    obtain ⟨b, hb⟩ := Dev.look_of_key (Dev.mem_keys.1 h1)
    have h3 := h.2 i
    rw [hb] at h3 ⊢
    exact h3.2.symm

/-- What a deed leaves of a device, where X is what its sectors would be. -/
structure WOut (d : Dev) (k : Nat) (X : List Blk) (r : Dev × Int) : Prop where
  sure : ∀ s, d.Sure s → (r.2 = 100 → Mixed r.1.secs X s) ∧ (r.2 ≠ 100 → r.1.Sure s)
  works : d.works ≤ r.1.works ∧ r.1.works ≤ d.works + k
  keep : r.1.keep = d.keep
  ways : (r.2 = 0 ∧ r.1.Live ∧ r.1.secs = X ∧ r.1.works = d.works + k ∧ r.1.fail = max (d.fail - k) (-1) ∧ r.1.till = max (d.till - k) (-1)) ∨
    (r.2 = 101 ∧ 0 ≤ d.till ∧ r.1.Live ∧ r.1.secs = X ∧ r.1.till = 0 ∧ (d.fail = -1 → r.1.fail = -1)) ∨
    (r.2 = 100 ∧ 0 ≤ d.fail ∧ r.1.dead = true ∧ r.1.fail = -1 ∧ r.1.till = -1 ∧ r.1.sure = [])

theorem Dev.Live.write {d : Dev} (h : d.Live) {i : Nat} (hi : i < d.secs.length) {b : Blk} (hb : b.length = 128) :
    (d.write (i : Int) b = (d, 101) ∧ d.till = 0) ∨ (WOut d 1 (d.secs.set i b) (d.write (i : Int) b) ∧ (d.write (i : Int) b).2 ≠ 101) := by
  have hat : d.at_ (i : Int) = 0 := by simp [Dev.at_, h.dead]; omega
  by_cases h1 : d.till = 0
  · exact .inl ⟨by simp [Dev.write, hat, hb, h1], h1⟩
  · right
    have hsz : ∀ c ∈ d.secs.set i b, c.length = 128 := fun c hc => by
      rcases List.mem_or_eq_of_mem_set hc with h1 | h1
      · exact h.size c h1
      · rw [h1]; exact hb
    by_cases h2 : d.fail = 0
    · rw [write_falls hat hb h1 h2]
      refine ⟨⟨fun s hs => ⟨fun _ => ?_, fun hn => absurd rfl hn⟩, ⟨Int.le_refl _, ?_⟩, rfl, .inr (.inr ⟨rfl, by omega, rfl, rfl, rfl, rfl⟩)⟩, by simp⟩
      · exact (hs.midst h.size hi hb).gone d.keep
      · show d.works ≤ _
        omega
    · rw [write_ok hat hb h1 h2]
      refine ⟨⟨fun s hs => ⟨fun hn => absurd hn (by simp), fun _ => ?_⟩, ⟨?_, ?_⟩, rfl, .inl ⟨rfl, ⟨h.dead, hsz⟩, rfl, ?_, rfl, rfl⟩⟩, by simp⟩
      · exact hs.midst h.size hi hb
      · show d.works ≤ d.works + 1
        omega
      · show d.works + 1 ≤ d.works + 1
        omega
      · rfl

/-- What a flush leaves. -/
structure FOut (d : Dev) (r : Dev × Int) : Prop where
  works : d.works ≤ r.1.works ∧ r.1.works ≤ d.works + 1
  keep : r.1.keep = d.keep
  ways : (r.2 = 0 ∧ r.1.Live ∧ r.1.secs = d.secs ∧ r.1.Sure d.secs ∧ r.1.works = d.works + 1 ∧ r.1.fail = max (d.fail - 1) (-1) ∧ r.1.till = max (d.till - 1) (-1)) ∨
    (r = (d, 101) ∧ d.till = 0) ∨
    (r.2 = 100 ∧ 0 ≤ d.fail ∧ r.1.dead = true ∧ r.1.fail = -1 ∧ r.1.till = -1 ∧ r.1.sure = [] ∧ ∀ s, d.Sure s → Mixed r.1.secs d.secs s)

theorem Dev.Live.flush {d : Dev} (h : d.Live) : FOut d d.flush := by
  by_cases h1 : d.till = 0
  · have e : d.flush = (d, 101) := by simp [Dev.flush, h.dead, h1]
    rw [e]
    exact ⟨⟨Int.le_refl _, by show d.works ≤ _; omega⟩, rfl, .inr (.inl ⟨rfl, h1⟩)⟩
  · by_cases h2 : d.fail = 0
    · have e : d.flush = (d.gone d.keep, 100) := by simp [Dev.flush, h.dead, h1, h2]
      rw [e]
      exact ⟨⟨Int.le_refl _, by show d.works ≤ _; omega⟩, rfl, .inr (.inr ⟨rfl, by omega, rfl, rfl, rfl, rfl, fun s hs => hs.gone d.keep⟩)⟩
    · have e : d.flush = ({ d with sure := [] }.counted, 0) := by simp [Dev.flush, h.dead, h1, h2]
      rw [e]
      exact ⟨⟨by show d.works ≤ d.works + 1; omega, by show d.works + 1 ≤ d.works + 1; omega⟩, rfl, .inl ⟨rfl, ⟨h.dead, h.size⟩, rfl, ⟨rfl, fun i => by simp [Dev.counted, Dev.look]⟩, rfl, rfl, rfl⟩⟩

/-- Sectors of which the first k of some are written, from q on. -/
def secSpliced (s : List Blk) (q k : Nat) (cs : List Blk) : List Blk := s.take q ++ cs.take k ++ s.drop (q + k)

theorem secSpliced_zero (s : List Blk) (q : Nat) (cs : List Blk) : secSpliced s q 0 cs = s := by simp [secSpliced]

theorem secSpliced_one {s : List Blk} {q : Nat} (h : q < s.length) (c : Blk) (cs : List Blk) (k : Nat) : secSpliced (s.set q c) (q + 1) k cs = secSpliced s q (k + 1) (c :: cs) := by
  unfold secSpliced
  rw [set_eq_splice h]
  have hl : (s.take q ++ [c]).length = q + 1 := by simp; omega
  rw [show s.take q ++ c :: s.drop (q + 1) = (s.take q ++ [c]) ++ s.drop (q + 1) by simp]
  rw [List.take_append_of_le_length (by omega), List.take_of_length_le (by omega), List.drop_append, hl, List.drop_of_length_le (by omega), List.nil_append, List.drop_drop]
  simp only [List.append_assoc, List.cons_append, List.nil_append, List.take_succ_cons]
  congr 4
  omega

theorem Dev.Live.writes : ∀ (cs : List Blk) {d : Dev} (_ : d.Live) (_ : -1 ≤ d.fail) (_ : -1 ≤ d.till) {q : Nat}, q + cs.length ≤ d.secs.length → (∀ c ∈ cs, c.length = 128) →
    ∃ k, k ≤ cs.length ∧ WOut d k (secSpliced d.secs q k cs) (d.writes (q : Int) cs) ∧ ((d.writes (q : Int) cs).2 = 0 → k = cs.length) := by
  intro cs
  induction cs with
  | nil =>
    intro d h hf ht q _ _
    refine ⟨0, Nat.le_refl _, ?_, fun _ => rfl⟩
    rw [secSpliced_zero]
    refine ⟨fun s hs => ⟨fun hn => absurd hn (by simp [Dev.writes]), fun _ => hs⟩, ⟨Int.le_refl _, by show d.works ≤ _; omega⟩, rfl, .inl ⟨rfl, h, rfl, ?_, ?_, ?_⟩⟩
    · show d.works = _; omega
    · show d.fail = _; omega
    · show d.till = _; omega
  | cons c cs ih =>
    intro d h hf ht q hq hc
    simp only [List.length_cons] at hq
    rw [Dev.writes]
    rcases h.write (i := q) (by omega) (hc c List.mem_cons_self) with ⟨h1, h2⟩ | ⟨h1, h2⟩
    · rw [h1, if_neg (by simp)]
      refine ⟨0, by simp, ?_, fun e => absurd e (by simp)⟩
      rw [secSpliced_zero]
      exact ⟨fun s hs => ⟨fun hn => absurd hn (by simp), fun _ => hs⟩, ⟨Int.le_refl _, by show d.works ≤ _; omega⟩, rfl, .inr (.inl ⟨rfl, by omega, h, rfl, h2, fun e => e⟩)⟩
    · obtain ⟨g1, g2, g3, g4⟩ := h1
      rcases g4 with ⟨e0, e1, e2, e3, e4, e5⟩ | ⟨e0, _⟩ | ⟨e0, e1, e2, e3, e4, e5⟩
      · rw [if_pos e0]
        have hsz := e1.size
        obtain ⟨k, k1, k2, k3⟩ := ih e1 (by omega) (by omega) (q := q + 1) (by rw [e2]; simp; omega) (fun x hx => hc x (List.mem_cons_of_mem _ hx))
        rw [e2, secSpliced_one (by omega)] at k2
        rw [show ((q + 1 : Nat) : Int) = (q : Int) + 1 from by push_cast; rfl] at k2 k3
        obtain ⟨m1, m2, m3, m4⟩ := k2
        refine ⟨k + 1, by simp; omega, ⟨fun s hs => m1 s ((g1 s hs).2 (by rw [e0]; decide)), ?_, ?_, ?_⟩, fun e => by rw [k3 e, List.length_cons]⟩
        · push_cast
          exact ⟨Int.le_trans g2.1 m2.1, by omega⟩
        · exact m3.trans g3
        · rcases m4 with ⟨n0, n1, n2, n3, n4, n5⟩ | ⟨n0, n1, n2, n3, n4, n5⟩ | ⟨n0, n1, n2, n3, n4, n5⟩
          · exact .inl ⟨n0, n1, n2, by rw [n3, e3]; push_cast; omega, by rw [n4, e4]; push_cast; omega, by rw [n5, e5]; push_cast; omega⟩
          · exact .inr (.inl ⟨n0, by omega, n2, n3, n4, fun e => n5 (by omega)⟩)
          · exact .inr (.inr ⟨n0, by omega, n2, n3, n4, n5⟩)
      · exact absurd e0 h2
      · rw [if_neg (by rw [e0]; decide)]
        have hX : d.secs.set q c = secSpliced d.secs q 1 (c :: cs) := by rw [← secSpliced_one (k := 0) (by omega), secSpliced_zero]
        rw [hX] at g1
        exact ⟨1, by simp, ⟨g1, g2, g3, .inr (.inr ⟨e0, e1, e2, e3, e4, e5⟩)⟩, fun e => absurd e (by rw [e0]; decide)⟩

/-- Sectors that a strip's Append has written in part: those before its end, and beside it, are as they were. -/
structure Partly (s : St) (d : Dev) (X : List Blk) : Prop where
  len : X.length = d.secs.length
  size : ∀ b ∈ X, b.length = 128
  rest : ∀ i : Nat, i < s.first + s.fin / 128 ∨ s.first + s.many ≤ i → X[i]? = d.secs[i]?
  rows : (X.drop s.first).flatten.take s.fin = (d.bytesAt s.first).take s.fin

/-- The first of the rows that an Append writes begins with what stands there. -/
theorem chunk_head {last b : List UInt8} (hl : last.length < 128) (hb : b ≠ []) : ∃ z, (chunks (last ++ b)) = ((last ++ b).take 128) :: z ∧ ((last ++ b).take 128).take last.length = last := by
  refine ⟨_, chunks_cons (by simp [hb]), ?_⟩
  rw [List.take_take, Nat.min_eq_left (by omega), List.take_left]

theorem Partly.of {s : St} {d : Dev} {l : List (List UInt8)} (h : SInv s d l) (hd : ∀ b ∈ d.secs, b.length = 128) {b : List UInt8} (hr : s.fin + (b.length + 7) ≤ 128 * s.many) {k : Nat} (hk : k ≤ ((chunks (s.last ++ recB b)).map pad).length) :
    Partly s d (secSpliced d.secs (s.first + s.fin / 128) k ((chunks (s.last ++ recB b)).map pad)) := by
  have hlr : (recB b).length = b.length + 7 := length_recB b
  have hll := h.wf.last
  have hth := h.wf.there
  have hal : (s.last ++ recB b).length = s.fin % 128 + (b.length + 7) := by rw [List.length_append, hll, hlr]
  have hcl : ((chunks (s.last ++ recB b)).map pad).length = (s.fin % 128 + (b.length + 7) + 127) / 128 := by rw [List.length_map, length_chunks, hal]
  obtain ⟨cs, hcs⟩ : ∃ cs, (chunks (s.last ++ recB b)).map pad = cs := ⟨_, rfl⟩
  have hcz : ∀ c ∈ cs, c.length = 128 := fun c hc => by
    rw [← hcs] at hc
    obtain ⟨c', h1, rfl⟩ := List.mem_map.1 hc
    exact length_pad (chunks_le h1)
  have hsz : ∀ c ∈ secSpliced d.secs (s.first + s.fin / 128) k cs, c.length = 128 := fun c hc => by
    unfold secSpliced at hc
    rcases List.mem_append.1 hc with h1 | h1
    · rcases List.mem_append.1 h1 with h2 | h2
      · exact hd c (List.mem_of_mem_take h2)
      · exact hcz c (List.mem_of_mem_take h2)
    · exact hd c (List.mem_of_mem_drop h1)
  rw [hcs] at hcl hk ⊢
  have hlen : (secSpliced d.secs (s.first + s.fin / 128) k cs).length = d.secs.length := by
    unfold secSpliced
    rw [List.length_append, List.length_append, List.length_take, List.length_take, List.length_drop]
    omega
  have hrest : ∀ i : Nat, i < s.first + s.fin / 128 ∨ s.first + s.many ≤ i → (secSpliced d.secs (s.first + s.fin / 128) k cs)[i]? = d.secs[i]? := fun i hi => by
    unfold secSpliced
    rcases hi with hi | hi
    · rw [List.append_assoc, List.getElem?_append_left (by rw [List.length_take]; omega), List.getElem?_take, if_pos hi]
    · rw [List.getElem?_append_right (by rw [List.length_append, List.length_take, List.length_take]; omega), List.getElem?_drop]
      congr 1
      rw [List.length_append, List.length_take, List.length_take]
      omega
  refine ⟨hlen, hsz, hrest, ?_⟩
  apply List.ext_getElem?
  intro p
  rw [List.getElem?_take, List.getElem?_take]
  by_cases hp : p < s.fin
  · rw [if_pos hp, if_pos hp, Dev.bytesAt, flatten_at _ (fun c hc => hsz c (List.mem_of_mem_drop hc)), flatten_at _ (fun c hc => hd c (List.mem_of_mem_drop hc)), List.getElem?_drop, List.getElem?_drop]
    by_cases hq : p / 128 < s.fin / 128
    · rw [hrest _ (.inl (by omega))]
    · have hpe : p / 128 = s.fin / 128 := by omega
      rw [hpe]
      by_cases hk0 : k = 0
      · subst hk0
        rw [secSpliced_zero]
      · obtain ⟨z, h1, h2⟩ := chunk_head (last := s.last) (b := recB b) (by omega) (fun e => by rw [e] at hlr; simp at hlr)
        have h3 : cs = pad ((s.last ++ recB b).take 128) :: z.map pad := by rw [← hcs, h1, List.map_cons]
        have h4 : (secSpliced d.secs (s.first + s.fin / 128) k cs)[s.first + s.fin / 128]? = some (pad ((s.last ++ recB b).take 128)) := by
          unfold secSpliced
          rw [List.append_assoc, List.getElem?_append_right (by rw [List.length_take]; omega), List.length_take, Nat.min_eq_left (by omega), Nat.sub_self, List.getElem?_append_left (by rw [List.length_take]; omega), List.getElem?_take, if_pos (by omega), h3]
          rfl
        rw [h4, Option.getD_some]
        have h5 : p % 128 < s.last.length := by omega
        unfold pad
        rw [List.getElem?_append_left (by rw [List.length_take, List.length_append]; omega), List.getElem?_take, if_pos (by omega), List.getElem?_append_left h5]
        have h6 : s.last[p % 128]? = (((d.bytesAt s.first).take s.fin).drop (s.fin - s.fin % 128))[p % 128]? := by rw [← h.last]
        rw [h6, List.getElem?_drop, List.getElem?_take, if_pos (by omega), Dev.bytesAt, flatten_at _ (fun c hc => hd c (List.mem_of_mem_drop hc)), List.getElem?_drop]
        rw [show s.fin - s.fin % 128 + p % 128 = p by omega, hpe]
  · rw [if_neg hp, if_neg hp]

/-- What an Append that fits leaves, on whatever device. -/
structure AOut (s : St) (d : Dev) (l : List (List UInt8)) (b : List UInt8) (r : St × Dev × Int) : Prop where
  works : d.works ≤ r.2.1.works ∧ r.2.1.works ≤ d.works + 1 + (b.length + 7)
  keep : r.2.1.keep = d.keep
  ways : (r.2.2 = 0 ∧ r.2.1.Live ∧ SInv r.1 r.2.1 (l ++ [b]) ∧ r.1.first = s.first ∧ r.1.many = s.many ∧ r.1.fin = s.fin + (b.length + 7) ∧ Partly s d r.2.1.secs ∧ (∀ q, d.Sure q → r.2.1.Sure q) ∧ -1 ≤ r.2.1.fail ∧ r.2.1.fail ≤ d.fail ∧ -1 ≤ r.2.1.till ∧ r.2.1.till ≤ d.till) ∨
    (r.2.2 = 101 ∧ r.1 = s ∧ 0 ≤ d.till ∧ r.2.1.Live ∧ SInv s r.2.1 l ∧ Partly s d r.2.1.secs ∧ (∀ q, d.Sure q → r.2.1.Sure q) ∧ r.2.1.till = 0 ∧ (d.fail = -1 → r.2.1.fail = -1)) ∨
    (r.2.2 = 100 ∧ r.1 = s ∧ 0 ≤ d.fail ∧ r.2.1.dead = true ∧ r.2.1.fail = -1 ∧ r.2.1.till = -1 ∧ r.2.1.sure = [] ∧ ∃ X, Partly s d X ∧ ∀ q, d.Sure q → Mixed r.2.1.secs X q)

theorem SInv.append_any {s : St} {d : Dev} {l : List (List UInt8)} (h : SInv s d l) (hd : d.Live) (hf : -1 ≤ d.fail) (ht : -1 ≤ d.till) {b : List UInt8} (hb : b.length ≤ 16384) (hr : s.fin + (b.length + 7) ≤ 128 * s.many) : AOut s d l b (s.append d b) := by
  have hlr : (recB b).length = b.length + 7 := length_recB b
  have hll := h.wf.last
  have hth := h.wf.there
  have hal : (s.last ++ recB b).length = s.fin % 128 + (b.length + 7) := by rw [List.length_append, hll, hlr]
  have hcl : ((chunks (s.last ++ recB b)).map pad).length = (s.fin % 128 + (b.length + 7) + 127) / 128 := by rw [List.length_map, length_chunks, hal]
  obtain ⟨k, k1, k2, k3⟩ := Dev.Live.writes ((chunks (s.last ++ recB b)).map pad) hd hf ht (q := s.first + s.fin / 128) (by rw [hcl]; omega) (fun c hc => by
    obtain ⟨c', h1, rfl⟩ := List.mem_map.1 hc
    exact length_pad (chunks_le h1))
  have hP := Partly.of h hd.size hr k1
  have hc : d.till = -1 ∧ d.fail = -1 ∨ ¬ (d.till = -1 ∧ d.fail = -1) := by omega
  have hkw : (k : Int) ≤ 1 + (b.length + 7) := by omega
  obtain ⟨R, hR⟩ : ∃ R, d.writes ((s.first + s.fin / 128 : Nat) : Int) ((chunks (s.last ++ recB b)).map pad) = R := ⟨_, rfl⟩
  have ha : s.append d b = if R.2 = 0 then ({ s with fin := s.fin + (b.length + 7), last := (s.last ++ recB b).drop ((s.last ++ recB b).length - (s.last ++ recB b).length % 128) }, R.1, 0) else (s, R.1, R.2) := by
    unfold St.append
    rw [if_neg (by omega), if_neg (by omega)]
    simp only [hR]
  rw [hR] at k2 k3
  obtain ⟨m1, m2, m3, m4⟩ := k2
  rcases m4 with ⟨n0, n1, n2, n3, n4, n5⟩ | ⟨n0, n1, n2, n3, n4, n5⟩ | ⟨n0, n1, n2, n3, n4, n5⟩
  · rw [ha, if_pos n0]
    -- the sectors are those that a calm device would have
    obtain ⟨s', d', g1, g2, g3, g4, g5, g6, g7, g8, g9, g10, g11⟩ := SInv.append (d := { d with fail := -1, till := -1 }) (l := l) (s := s) ⟨⟨h.wf.one, h.wf.there, h.wf.fin, h.wf.last⟩, h.last, h.small, h.rows⟩ ⟨hd.dead, rfl, rfl, hd.size⟩ hb hr
    have hcalm : ({ d with fail := -1, till := -1 } : Dev).Calm := ⟨hd.dead, rfl, rfl, hd.size⟩
    obtain ⟨dc, w1, w2, w3, w4, w5⟩ := Dev.Calm.writes ((chunks (s.last ++ recB b)).map pad) hcalm (q := s.first + s.fin / 128) (by rw [hcl]; show _ ≤ d.secs.length; omega) (fun c hc => by
      obtain ⟨c', h1, rfl⟩ := List.mem_map.1 hc
      exact length_pad (chunks_le h1))
    have hsa : s.append { d with fail := -1, till := -1 } b = ({ s with fin := s.fin + (b.length + 7), last := (s.last ++ recB b).drop ((s.last ++ recB b).length - (s.last ++ recB b).length % 128) }, dc, 0) := by
      unfold St.append
      rw [if_neg (by omega), if_neg (by omega)]
      simp only [w1, if_true]
    rw [g1] at hsa
    injection hsa with e1 e2
    injection e2 with e2 e3
    have hke := k3 n0
    have hsecs : R.1.secs = d'.secs := by
      rw [n2, e2, w3]
      show secSpliced d.secs _ _ _ = _
      unfold secSpliced
      rw [hke, List.take_length]
    have hinv : SInv s' R.1 (l ++ [b]) := ⟨⟨g2.wf.one, by rw [hsecs]; exact g2.wf.there, g2.wf.fin, g2.wf.last⟩, by unfold Dev.bytesAt; rw [hsecs]; exact g2.last, g2.small, by unfold Dev.bytesAt; rw [hsecs]; exact g2.rows⟩
    rw [← e1]
    exact ⟨⟨m2.1, by show R.1.works ≤ _; omega⟩, m3, .inl ⟨rfl, n1, hinv, g4, g5, g6, by show Partly s d R.1.secs; rw [n2]; exact hP, fun q hq => (m1 q hq).2 (by rw [n0]; decide), by show -1 ≤ R.1.fail; omega, by show R.1.fail ≤ d.fail; omega, by show -1 ≤ R.1.till; omega, by show R.1.till ≤ d.till; omega⟩⟩
  · rw [ha, if_neg (by rw [n0]; decide)]
    have hP2 := hP
    rw [← n3] at hP2
    have hinv : SInv s R.1 l := by
      refine ⟨⟨h.wf.one, by rw [hP2.len]; exact h.wf.there, h.wf.fin, h.wf.last⟩, ?_, h.small, ?_⟩
      · unfold Dev.bytesAt
        rw [hP2.rows]
        exact h.last
      · unfold Dev.bytesAt
        rw [hP2.rows]
        exact h.rows
    exact ⟨⟨m2.1, by show R.1.works ≤ _; omega⟩, m3, .inr (.inl ⟨n0, rfl, n1, n2, hinv, hP2, fun q hq => (m1 q hq).2 (by rw [n0]; decide), n4, n5⟩)⟩
  · rw [ha, if_neg (by rw [n0]; decide)]
    exact ⟨⟨m2.1, by show R.1.works ≤ _; omega⟩, m3, .inr (.inr ⟨n0, rfl, n1, n2, n3, n4, n5, _, hP, fun q hq => (m1 q hq).1 n0⟩)⟩
end Go.Proofs.Ytbnflbkaogpnbaa
