/- Texts in one: S6 O1 Q3 Q4 A12 Q5 O6 J0. -/
import Derived.Test.YtbnflbkaogpnbaaGreatPAF
import Derived.Test.YtbnflbkaogpnbaaGreatPAN
import Derived.Test.YtbnflbkaogpnbaaGreatPAK
import Derived.Test.YtbnflbkaogpnbaaGreatPAD
import Derived.Lib.SlBytesConst
import Derived.Test.YtbnflbkaogpnbaaGreatPAP
namespace Go.Proofs.YtbnflbkaogpnbaaGreat
set_option linter.unusedVariables false
/-- A device that is alive. -/
structure Dev.Live (d : Dev) : Prop where
 dead : d.dead = false
 size : ∀ b ∈ d.secs, b.length = 128
theorem Dev.Calm.live {d : Dev} (h : d.Calm) : d.Live := ⟨h.dead, h.size⟩
/-- Sectors out of two rows of them. -/
structure Mixed (m x q : List Blk) : Prop where
 len : m.length = x.length
 at_ : ∀ i : Nat, m[i]? = x[i]? ∨ m[i]? = q[i]?
theorem Mixed.size {m x q : List Blk} (h : Mixed m x q) (hx : ∀ b ∈ x, b.length = 128) (hq : ∀ b ∈ q, b.length = 128) : ∀ b ∈ m, b.length = 128 := fun b hb => by
 obtain ⟨i, hi⟩ := List.getElem?_of_mem hb
 rcases h.at_ i with h1 | h1
 ·rw [hi] at h1; exact hx b (List.mem_of_getElem? h1.symm)
 ·rw [hi] at h1; exact hq b (List.mem_of_getElem? h1.symm)
theorem Dev.Sure.midst {d : Dev} {s : List Blk} (h : d.Sure s) (hs : ∀ b ∈ d.secs, b.length = 128) {i : Nat} (hi : i < d.secs.length) {b : Blk} (hb : b.length = 128) : (d.midst i b).Sure s :=
 (Dev.Calm.write (d := { d with dead := false, fail := -1, till := -1 }) ⟨rfl, rfl, rfl, hs⟩ hi hb).2.2.2.2 s h
theorem Dev.Sure.gone {d : Dev} {q : List Blk} (h : d.Sure q) (keep : List Int) : Mixed (d.gone keep).secs d.secs q := by
 refine ⟨by simp [Dev.gone, Dev.length_backs], fun i => ?_⟩
 show (Dev.backs keep _ 0 d.keys d.secs)[i]? = _ ∨ (Dev.backs keep _ 0 d.keys d.secs)[i]? = _
 rcases backs_at keep (fun i => (Dev.look d.sure i).getD []) i d.keys 0 d.secs with h1 | ⟨h1, h2⟩
 ·exact .inl h1
 ·right
  rw [h2]
  obtain ⟨b, hb⟩ := Dev.look_of_key (Dev.mem_keys.1 h1)
  have h3 := h.2 i
  rw [hb] at h3 ⊢
  exact h3.2.symm
/-- What a deed leaves of a device, where X is what its sectors would be. -/
structure WOut (d : Dev) (k : Nat) (X : List Blk) (r : Dev × Int) : Prop where
 sure : ∀ s, d.Sure s → (r.2 = 100 → Mixed r.1.secs X s) ∧ (r.2 ≠ 100 → r.1.Sure s)
 works : d.works ≤ r.1.works ∧ r.1.works ≤ d.works + k
 keep : r.1.keep = d.keep
 ways : (r.2 = 0 ∧ r.1.Live ∧ r.1.secs = X ∧ r.1.works = d.works + k ∧ r.1.fail = max (d.fail - k) (-1) ∧ r.1.till = max (d.till - k) (-1)) ∨
  (r.2 = 101 ∧ 0 ≤ d.till ∧ r.1.Live ∧ r.1.secs = X ∧ r.1.till = 0 ∧ (d.fail = -1 → r.1.fail = -1)) ∨
  (r.2 = 100 ∧ 0 ≤ d.fail ∧ r.1.dead = true ∧ r.1.fail = -1 ∧ r.1.till = -1 ∧ r.1.sure = [])
theorem Dev.Live.write {d : Dev} (h : d.Live) {i : Nat} (hi : i < d.secs.length) {b : Blk} (hb : b.length = 128) :
  (d.write (i : Int) b = (d, 101) ∧ d.till = 0) ∨ (WOut d 1 (d.secs.set i b) (d.write (i : Int) b) ∧ (d.write (i : Int) b).2 ≠ 101) := by
 have hat : d.at_ (i : Int) = 0 := by simp [Dev.at_, h.dead]; omega
 by_cases h1 : d.till = 0
 ·exact .inl ⟨by simp [Dev.write, hat, hb, h1], h1⟩
 ·right
  have hsz : ∀ c ∈ d.secs.set i b, c.length = 128 := fun c hc => by
   rcases List.mem_or_eq_of_mem_set hc with h1 | h1
   ·exact h.size c h1
   ·rw [h1]; exact hb
  by_cases h2 : d.fail = 0
  ·rw [write_falls hat hb h1 h2]
   refine ⟨⟨fun s hs => ⟨fun _ => ?_, fun hn => absurd rfl hn⟩, ⟨Int.le_refl _, ?_⟩, rfl, .inr (.inr ⟨rfl, by omega, rfl, rfl, rfl, rfl⟩)⟩, by simp⟩
   ·exact (hs.midst h.size hi hb).gone d.keep
   ·show d.works ≤ _
    omega
  ·rw [write_ok hat hb h1 h2]
   refine ⟨⟨fun s hs => ⟨fun hn => absurd hn (by simp), fun _ => ?_⟩, ⟨?_, ?_⟩, rfl, .inl ⟨rfl, ⟨h.dead, hsz⟩, rfl, ?_, rfl, rfl⟩⟩, by simp⟩
   ·exact hs.midst h.size hi hb
   ·show d.works ≤ d.works + 1
    omega
   ·show d.works + 1 ≤ d.works + 1
    omega
   ·rfl
/-- What a flush leaves. -/
structure FOut (d : Dev) (r : Dev × Int) : Prop where
 works : d.works ≤ r.1.works ∧ r.1.works ≤ d.works + 1
 keep : r.1.keep = d.keep
 ways : (r.2 = 0 ∧ r.1.Live ∧ r.1.secs = d.secs ∧ r.1.Sure d.secs ∧ r.1.works = d.works + 1 ∧ r.1.fail = max (d.fail - 1) (-1) ∧ r.1.till = max (d.till - 1) (-1)) ∨
  (r = (d, 101) ∧ d.till = 0) ∨
  (r.2 = 100 ∧ 0 ≤ d.fail ∧ r.1.dead = true ∧ r.1.fail = -1 ∧ r.1.till = -1 ∧ r.1.sure = [] ∧ ∀ s, d.Sure s → Mixed r.1.secs d.secs s)
theorem Dev.Live.flush {d : Dev} (h : d.Live) : FOut d d.flush := by
 by_cases h1 : d.till = 0
 ·have e : d.flush = (d, 101) := by simp [Dev.flush, h.dead, h1]
  rw [e]
  exact ⟨⟨Int.le_refl _, by show d.works ≤ _; omega⟩, rfl, .inr (.inl ⟨rfl, h1⟩)⟩
 ·by_cases h2 : d.fail = 0
  ·have e : d.flush = (d.gone d.keep, 100) := by simp [Dev.flush, h.dead, h1, h2]
   rw [e]
   exact ⟨⟨Int.le_refl _, by show d.works ≤ _; omega⟩, rfl, .inr (.inr ⟨rfl, by omega, rfl, rfl, rfl, rfl, fun s hs => hs.gone d.keep⟩)⟩
  ·have e : d.flush = ({ d with sure := [] }.counted, 0) := by simp [Dev.flush, h.dead, h1, h2]
   rw [e]
   exact ⟨⟨by show d.works ≤ d.works + 1; omega, by show d.works + 1 ≤ d.works + 1; omega⟩, rfl, .inl ⟨rfl, ⟨h.dead, h.size⟩, rfl, ⟨rfl, fun i => by simp [Dev.counted, Dev.look]⟩, rfl, rfl, rfl⟩⟩
/-- Sectors of which the first k of some are written, from q on. -/
def secSpliced (s : List Blk) (q k : Nat) (cs : List Blk) : List Blk := s.take q ++ cs.take k ++ s.drop (q + k)
theorem secSpliced_zero (s : List Blk) (q : Nat) (cs : List Blk) : secSpliced s q 0 cs = s := by simp [secSpliced]
theorem secSpliced_one {s : List Blk} {q : Nat} (h : q < s.length) (c : Blk) (cs : List Blk) (k : Nat) : secSpliced (s.set q c) (q + 1) k cs = secSpliced s q (k + 1) (c :: cs) := by
 unfold secSpliced
 rw [set_eq_splice h]
 have hl : (s.take q ++ [c]).length = q + 1 := by simp; omega
 rw [show s.take q ++ c :: s.drop (q + 1) = (s.take q ++ [c]) ++ s.drop (q + 1) by simp]
 rw [List.take_append_of_le_length (by omega), List.take_of_length_le (by omega), List.drop_append, hl, List.drop_of_length_le (by omega), List.nil_append, List.drop_drop]
 simp only [List.append_assoc, List.cons_append, List.nil_append, List.take_succ_cons]
 congr 4
 omega
theorem Dev.Live.writes : ∀ (cs : List Blk) {d : Dev} (_ : d.Live) (_ : -1 ≤ d.fail) (_ : -1 ≤ d.till) {q : Nat}, q + cs.length ≤ d.secs.length → (∀ c ∈ cs, c.length = 128) →
  ∃ k, k ≤ cs.length ∧ WOut d k (secSpliced d.secs q k cs) (d.writes (q : Int) cs) ∧ ((d.writes (q : Int) cs).2 = 0 → k = cs.length) := by
 intro cs
 induction cs with
 | nil =>
  intro d h hf ht q _ _
  refine ⟨0, Nat.le_refl _, ?_, fun _ => rfl⟩
  rw [secSpliced_zero]
  refine ⟨fun s hs => ⟨fun hn => absurd hn (by simp [Dev.writes]), fun _ => hs⟩, ⟨Int.le_refl _, by show d.works ≤ _; omega⟩, rfl, .inl ⟨rfl, h, rfl, ?_, ?_, ?_⟩⟩
  ·show d.works = _; omega
  ·show d.fail = _; omega
  ·show d.till = _; omega
 | cons c cs ih =>
  intro d h hf ht q hq hc
  simp only [List.length_cons] at hq
  rw [Dev.writes]
  rcases h.write (i := q) (by omega) (hc c List.mem_cons_self) with ⟨h1, h2⟩ | ⟨h1, h2⟩
  ·rw [h1, if_neg (by simp)]
   refine ⟨0, by simp, ?_, fun e => absurd e (by simp)⟩
   rw [secSpliced_zero]
   exact ⟨fun s hs => ⟨fun hn => absurd hn (by simp), fun _ => hs⟩, ⟨Int.le_refl _, by show d.works ≤ _; omega⟩, rfl, .inr (.inl ⟨rfl, by omega, h, rfl, h2, fun e => e⟩)⟩
  ·obtain ⟨g1, g2, g3, g4⟩ := h1
   rcases g4 with ⟨e0, e1, e2, e3, e4, e5⟩ | ⟨e0, _⟩ | ⟨e0, e1, e2, e3, e4, e5⟩
   ·rw [if_pos e0]
    have hsz := e1.size
    obtain ⟨k, k1, k2, k3⟩ := ih e1 (by omega) (by omega) (q := q + 1) (by rw [e2]; simp; omega) (fun x hx => hc x (List.mem_cons_of_mem _ hx))
    rw [e2, secSpliced_one (by omega)] at k2
    rw [show ((q + 1 : Nat) : Int) = (q : Int) + 1 from by push_cast; rfl] at k2 k3
    obtain ⟨m1, m2, m3, m4⟩ := k2
    refine ⟨k + 1, by simp; omega, ⟨fun s hs => m1 s ((g1 s hs).2 (by rw [e0]; decide)), ?_, ?_, ?_⟩, fun e => by rw [k3 e, List.length_cons]⟩
    ·push_cast
     exact ⟨Int.le_trans g2.1 m2.1, by omega⟩
    ·exact m3.trans g3
    ·rcases m4 with ⟨n0, n1, n2, n3, n4, n5⟩ | ⟨n0, n1, n2, n3, n4, n5⟩ | ⟨n0, n1, n2, n3, n4, n5⟩
     ·exact .inl ⟨n0, n1, n2, by rw [n3, e3]; push_cast; omega, by rw [n4, e4]; push_cast; omega, by rw [n5, e5]; push_cast; omega⟩
     ·exact .inr (.inl ⟨n0, by omega, n2, n3, n4, fun e => n5 (by omega)⟩)
     ·exact .inr (.inr ⟨n0, by omega, n2, n3, n4, n5⟩)
   ·exact absurd e0 h2
   ·rw [if_neg (by rw [e0]; decide)]
    have hX : d.secs.set q c = secSpliced d.secs q 1 (c :: cs) := by rw [← secSpliced_one (k := 0) (by omega), secSpliced_zero]
    rw [hX] at g1
    exact ⟨1, by simp, ⟨g1, g2, g3, .inr (.inr ⟨e0, e1, e2, e3, e4, e5⟩)⟩, fun e => absurd e (by rw [e0]; decide)⟩
/-- Sectors that a strip's Append has written in part: those before its end, and beside it, are as they were. -/
structure Partly (s : St) (d : Dev) (X : List Blk) : Prop where
 len : X.length = d.secs.length
 size : ∀ b ∈ X, b.length = 128
 rest : ∀ i : Nat, i < s.first + s.fin / 128 ∨ s.first + s.many ≤ i → X[i]? = d.secs[i]?
 rows : (X.drop s.first).flatten.take s.fin = (d.bytesAt s.first).take s.fin
/-- The first of the rows that an Append writes begins with what stands there. -/
theorem chunk_head {last b : List UInt8} (hl : last.length < 128) (hb : b ≠ []) : ∃ z, (chunks (last ++ b)) = ((last ++ b).take 128) :: z ∧ ((last ++ b).take 128).take last.length = last := by
 refine ⟨_, chunks_cons (by simp [hb]), ?_⟩
 rw [List.take_take, Nat.min_eq_left (by omega), List.take_left]
theorem Partly.of {s : St} {d : Dev} {l : List (List UInt8)} (h : SInv s d l) (hd : ∀ b ∈ d.secs, b.length = 128) {b : List UInt8} (hr : s.fin + (b.length + 7) ≤ 128 * s.many) {k : Nat} (hk : k ≤ ((chunks (s.last ++ recB b)).map pad).length) :
  Partly s d (secSpliced d.secs (s.first + s.fin / 128) k ((chunks (s.last ++ recB b)).map pad)) := by
 have hlr : (recB b).length = b.length + 7 := length_recB b
 have hll := h.wf.last
 have hth := h.wf.there
 have hal : (s.last ++ recB b).length = s.fin % 128 + (b.length + 7) := by rw [List.length_append, hll, hlr]
 have hcl : ((chunks (s.last ++ recB b)).map pad).length = (s.fin % 128 + (b.length + 7) + 127) / 128 := by rw [List.length_map, length_chunks, hal]
 obtain ⟨cs, hcs⟩ : ∃ cs, (chunks (s.last ++ recB b)).map pad = cs := ⟨_, rfl⟩
 have hcz : ∀ c ∈ cs, c.length = 128 := fun c hc => by
  rw [← hcs] at hc
  obtain ⟨c', h1, rfl⟩ := List.mem_map.1 hc
  exact length_pad (chunks_le h1)
 have hsz : ∀ c ∈ secSpliced d.secs (s.first + s.fin / 128) k cs, c.length = 128 := fun c hc => by
  unfold secSpliced at hc
  rcases List.mem_append.1 hc with h1 | h1
  ·rcases List.mem_append.1 h1 with h2 | h2
   ·exact hd c (List.mem_of_mem_take h2)
   ·exact hcz c (List.mem_of_mem_take h2)
  ·exact hd c (List.mem_of_mem_drop h1)
 rw [hcs] at hcl hk ⊢
 have hlen : (secSpliced d.secs (s.first + s.fin / 128) k cs).length = d.secs.length := by
  unfold secSpliced
  rw [List.length_append, List.length_append, List.length_take, List.length_take, List.length_drop]
  omega
 have hrest : ∀ i : Nat, i < s.first + s.fin / 128 ∨ s.first + s.many ≤ i → (secSpliced d.secs (s.first + s.fin / 128) k cs)[i]? = d.secs[i]? := fun i hi => by
  unfold secSpliced
  rcases hi with hi | hi
  ·rw [List.append_assoc, List.getElem?_append_left (by rw [List.length_take]; omega), List.getElem?_take, if_pos hi]
  ·rw [List.getElem?_append_right (by rw [List.length_append, List.length_take, List.length_take]; omega), List.getElem?_drop]
   congr 1
   rw [List.length_append, List.length_take, List.length_take]
   omega
 refine ⟨hlen, hsz, hrest, ?_⟩
 apply List.ext_getElem?
 intro p
 rw [List.getElem?_take, List.getElem?_take]
 by_cases hp : p < s.fin
 ·rw [if_pos hp, if_pos hp, Dev.bytesAt, flatten_at _ (fun c hc => hsz c (List.mem_of_mem_drop hc)), flatten_at _ (fun c hc => hd c (List.mem_of_mem_drop hc)), List.getElem?_drop, List.getElem?_drop]
  by_cases hq : p / 128 < s.fin / 128
  ·rw [hrest _ (.inl (by omega))]
  ·have hpe : p / 128 = s.fin / 128 := by omega
   rw [hpe]
   by_cases hk0 : k = 0
   ·subst hk0
    rw [secSpliced_zero]
   ·obtain ⟨z, h1, h2⟩ := chunk_head (last := s.last) (b := recB b) (by omega) (fun e => by rw [e] at hlr; simp at hlr)
    have h3 : cs = pad ((s.last ++ recB b).take 128) :: z.map pad := by rw [← hcs, h1, List.map_cons]
    have h4 : (secSpliced d.secs (s.first + s.fin / 128) k cs)[s.first + s.fin / 128]? = some (pad ((s.last ++ recB b).take 128)) := by
     unfold secSpliced
     rw [List.append_assoc, List.getElem?_append_right (by rw [List.length_take]; omega), List.length_take, Nat.min_eq_left (by omega), Nat.sub_self, List.getElem?_append_left (by rw [List.length_take]; omega), List.getElem?_take, if_pos (by omega), h3]
     rfl
    rw [h4, Option.getD_some]
    have h5 : p % 128 < s.last.length := by omega
    unfold pad
    rw [List.getElem?_append_left (by rw [List.length_take, List.length_append]; omega), List.getElem?_take, if_pos (by omega), List.getElem?_append_left h5]
    have h6 : s.last[p % 128]? = (((d.bytesAt s.first).take s.fin).drop (s.fin - s.fin % 128))[p % 128]? := by rw [← h.last]
    rw [h6, List.getElem?_drop, List.getElem?_take, if_pos (by omega), Dev.bytesAt, flatten_at _ (fun c hc => hd c (List.mem_of_mem_drop hc)), List.getElem?_drop]
    rw [show s.fin - s.fin % 128 + p % 128 = p by omega, hpe]
 ·rw [if_neg hp, if_neg hp]
/-- What an Append that fits leaves, on whatever device. -/
structure AOut (s : St) (d : Dev) (l : List (List UInt8)) (b : List UInt8) (r : St × Dev × Int) : Prop where
 works : d.works ≤ r.2.1.works ∧ r.2.1.works ≤ d.works + 1 + (b.length + 7)
 keep : r.2.1.keep = d.keep
 ways : (r.2.2 = 0 ∧ r.2.1.Live ∧ SInv r.1 r.2.1 (l ++ [b]) ∧ r.1.first = s.first ∧ r.1.many = s.many ∧ r.1.fin = s.fin + (b.length + 7) ∧ Partly s d r.2.1.secs ∧ (∀ q, d.Sure q → r.2.1.Sure q) ∧ -1 ≤ r.2.1.fail ∧ r.2.1.fail ≤ d.fail ∧ -1 ≤ r.2.1.till ∧ r.2.1.till ≤ d.till) ∨
  (r.2.2 = 101 ∧ r.1 = s ∧ 0 ≤ d.till ∧ r.2.1.Live ∧ SInv s r.2.1 l ∧ Partly s d r.2.1.secs ∧ (∀ q, d.Sure q → r.2.1.Sure q) ∧ r.2.1.till = 0 ∧ (d.fail = -1 → r.2.1.fail = -1)) ∨
  (r.2.2 = 100 ∧ r.1 = s ∧ 0 ≤ d.fail ∧ r.2.1.dead = true ∧ r.2.1.fail = -1 ∧ r.2.1.till = -1 ∧ r.2.1.sure = [] ∧ ∃ X, Partly s d X ∧ ∀ q, d.Sure q → Mixed r.2.1.secs X q)
theorem SInv.append_any {s : St} {d : Dev} {l : List (List UInt8)} (h : SInv s d l) (hd : d.Live) (hf : -1 ≤ d.fail) (ht : -1 ≤ d.till) {b : List UInt8} (hb : b.length ≤ 16384) (hr : s.fin + (b.length + 7) ≤ 128 * s.many) : AOut s d l b (s.append d b) := by
 have hlr : (recB b).length = b.length + 7 := length_recB b
 have hll := h.wf.last
 have hth := h.wf.there
 have hal : (s.last ++ recB b).length = s.fin % 128 + (b.length + 7) := by rw [List.length_append, hll, hlr]
 have hcl : ((chunks (s.last ++ recB b)).map pad).length = (s.fin % 128 + (b.length + 7) + 127) / 128 := by rw [List.length_map, length_chunks, hal]
 obtain ⟨k, k1, k2, k3⟩ := Dev.Live.writes ((chunks (s.last ++ recB b)).map pad) hd hf ht (q := s.first + s.fin / 128) (by rw [hcl]; omega) (fun c hc => by
  obtain ⟨c', h1, rfl⟩ := List.mem_map.1 hc
  exact length_pad (chunks_le h1))
 have hP := Partly.of h hd.size hr k1
 have hc : d.till = -1 ∧ d.fail = -1 ∨ ¬ (d.till = -1 ∧ d.fail = -1) := by omega
 have hkw : (k : Int) ≤ 1 + (b.length + 7) := by omega
 obtain ⟨R, hR⟩ : ∃ R, d.writes ((s.first + s.fin / 128 : Nat) : Int) ((chunks (s.last ++ recB b)).map pad) = R := ⟨_, rfl⟩
 have ha : s.append d b = if R.2 = 0 then ({ s with fin := s.fin + (b.length + 7), last := (s.last ++ recB b).drop ((s.last ++ recB b).length - (s.last ++ recB b).length % 128) }, R.1, 0) else (s, R.1, R.2) := by
  unfold St.append
  rw [if_neg (by omega), if_neg (by omega)]
  simp only [hR]
 rw [hR] at k2 k3
 obtain ⟨m1, m2, m3, m4⟩ := k2
 rcases m4 with ⟨n0, n1, n2, n3, n4, n5⟩ | ⟨n0, n1, n2, n3, n4, n5⟩ | ⟨n0, n1, n2, n3, n4, n5⟩
 ·rw [ha, if_pos n0]
  -- the sectors are those that a calm device would have
  obtain ⟨s', d', g1, g2, g3, g4, g5, g6, g7, g8, g9, g10, g11⟩ := SInv.append (d := { d with fail := -1, till := -1 }) (l := l) (s := s) ⟨⟨h.wf.one, h.wf.there, h.wf.fin, h.wf.last⟩, h.last, h.small, h.rows⟩ ⟨hd.dead, rfl, rfl, hd.size⟩ hb hr
  have hcalm : ({ d with fail := -1, till := -1 } : Dev).Calm := ⟨hd.dead, rfl, rfl, hd.size⟩
  obtain ⟨dc, w1, w2, w3, w4, w5⟩ := Dev.Calm.writes ((chunks (s.last ++ recB b)).map pad) hcalm (q := s.first + s.fin / 128) (by rw [hcl]; show _ ≤ d.secs.length; omega) (fun c hc => by
   obtain ⟨c', h1, rfl⟩ := List.mem_map.1 hc
   exact length_pad (chunks_le h1))
  have hsa : s.append { d with fail := -1, till := -1 } b = ({ s with fin := s.fin + (b.length + 7), last := (s.last ++ recB b).drop ((s.last ++ recB b).length - (s.last ++ recB b).length % 128) }, dc, 0) := by
   unfold St.append
   rw [if_neg (by omega), if_neg (by omega)]
   simp only [w1, if_true]
  rw [g1] at hsa
  injection hsa with e1 e2
  injection e2 with e2 e3
  have hke := k3 n0
  have hsecs : R.1.secs = d'.secs := by
   rw [n2, e2, w3]
   show secSpliced d.secs _ _ _ = _
   unfold secSpliced
   rw [hke, List.take_length]
  have hinv : SInv s' R.1 (l ++ [b]) := ⟨⟨g2.wf.one, by rw [hsecs]; exact g2.wf.there, g2.wf.fin, g2.wf.last⟩, by unfold Dev.bytesAt; rw [hsecs]; exact g2.last, g2.small, by unfold Dev.bytesAt; rw [hsecs]; exact g2.rows⟩
  rw [← e1]
  exact ⟨⟨m2.1, by show R.1.works ≤ _; omega⟩, m3, .inl ⟨rfl, n1, hinv, g4, g5, g6, by show Partly s d R.1.secs; rw [n2]; exact hP, fun q hq => (m1 q hq).2 (by rw [n0]; decide), by show -1 ≤ R.1.fail; omega, by show R.1.fail ≤ d.fail; omega, by show -1 ≤ R.1.till; omega, by show R.1.till ≤ d.till; omega⟩⟩
 ·rw [ha, if_neg (by rw [n0]; decide)]
  have hP2 := hP
  rw [← n3] at hP2
  have hinv : SInv s R.1 l := by
   refine ⟨⟨h.wf.one, by rw [hP2.len]; exact h.wf.there, h.wf.fin, h.wf.last⟩, ?_, h.small, ?_⟩
   ·unfold Dev.bytesAt
    rw [hP2.rows]
    exact h.last
   ·unfold Dev.bytesAt
    rw [hP2.rows]
    exact h.rows
  exact ⟨⟨m2.1, by show R.1.works ≤ _; omega⟩, m3, .inr (.inl ⟨n0, rfl, n1, n2, hinv, hP2, fun q hq => (m1 q hq).2 (by rw [n0]; decide), n4, n5⟩)⟩
 ·rw [ha, if_neg (by rw [n0]; decide)]
  exact ⟨⟨m2.1, by show R.1.works ≤ _; omega⟩, m3, .inr (.inr ⟨n0, rfl, n1, n2, n3, n4, n5, _, hP, fun q hq => (m1 q hq).1 n0⟩)⟩
end Go.Proofs.YtbnflbkaogpnbaaGreat
namespace Go.Proofs.YtbnflbkaogpnbaaGreat
set_option linter.unusedVariables false
theorem mixed_set {m x : List Blk} {j : Nat} {v : Blk} (hj : j < x.length) (h : Mixed m (x.set j v) x) : m = x ∨ m = x.set j v := by
 have hl := h.len
 rw [List.length_set] at hl
 rcases h.at_ j with e | e
 ·right
  apply List.ext_getElem?
  intro i
  by_cases hi : i = j
  ·rw [hi, e]
  ·rcases h.at_ i with g | g
   ·exact g
   ·rw [g, List.getElem?_set_ne (fun e => hi e.symm)]
 ·left
  apply List.ext_getElem?
  intro i
  by_cases hi : i = j
  ·rw [hi, e]
  ·rcases h.at_ i with g | g
   ·rw [g, List.getElem?_set_ne (fun e => hi e.symm)]
   ·exact g
/-- What a Save leaves. -/
structure SOut (s : Sl) (d : Dev) (b : List UInt8) (r : Sl × Dev × Int) : Prop where
 secs : r.2.1.secs = d.secs ∨ r.2.1.secs = d.secs.set (s.first + s.which) (slotB (s.turn + 1) b)
 works : d.works ≤ r.2.1.works ∧ r.2.1.works ≤ d.works + 2
 keep : r.2.1.keep = d.keep
 ways : (r.2.2 = 0 ∧ r.1 = s.next b ∧ r.2.1.secs = d.secs.set (s.first + s.which) (slotB (s.turn + 1) b) ∧ r.2.1.Live ∧ r.2.1.Sure r.2.1.secs ∧ r.2.1.works = d.works + 2 ∧ -1 ≤ r.2.1.fail ∧ r.2.1.fail ≤ d.fail ∧ -1 ≤ r.2.1.till ∧ r.2.1.till ≤ d.till) ∨
  (r.2.2 = 101 ∧ r.1 = s ∧ 0 ≤ d.till ∧ r.2.1.Live ∧ r.2.1.till = 0 ∧ (d.fail = -1 → r.2.1.fail = -1)) ∨
  (r.2.2 = 100 ∧ r.1 = s ∧ 0 ≤ d.fail ∧ r.2.1.dead = true ∧ r.2.1.fail = -1 ∧ r.2.1.till = -1 ∧ r.2.1.sure = [])
theorem SlOn.which {s : Sl} {d : Dev} (h : SlOn s d) : s.first + s.which < d.secs.length := by
 obtain ⟨x, y, h1, h2, h3⟩ := h.pair
 have := h3.which_le
 have := h.there
 omega
theorem SlOn.save {s : Sl} {d : Dev} (h : SlOn s d) (hd : d.Live) (hf : -1 ≤ d.fail) (ht : -1 ≤ d.till) (hq : d.Sure d.secs) {b : List UInt8} (hb : b.length ≤ 100) : SOut s d b (s.save d b) := by
 have hw := h.which
 have hsl : (slotB (s.turn + 1) b).length = 128 := length_slotB (by omega)
 unfold Sl.save
 rw [if_neg (by omega)]
 rcases hd.write hw hsl with ⟨h1, h2⟩ | ⟨⟨g1, g2, g3, g4⟩, h2⟩
 ·simp only [h1]
  rw [if_pos (by decide)]
  exact ⟨.inl rfl, ⟨Int.le_refl _, by show d.works ≤ _; omega⟩, rfl, .inr (.inl ⟨rfl, rfl, by omega, hd, h2, fun e => e⟩)⟩
 ·obtain ⟨R, hR⟩ : ∃ R, d.write ((s.first + s.which : Nat) : Int) (slotB (s.turn + 1) b) = R := ⟨_, rfl⟩
  rw [hR] at g1 g2 g3 g4 h2
  simp only [hR]
  rcases g4 with ⟨e0, e1, e2, e3, e4, e5⟩ | ⟨e0, _⟩ | ⟨e0, e1, e2, e3, e4, e5⟩
  ·rw [if_neg (by rw [e0]; decide)]
   obtain ⟨k1, k2, k3⟩ := e1.flush
   obtain ⟨Q, hQ⟩ : ∃ Q, R.1.flush = Q := ⟨_, rfl⟩
   rw [hQ] at k1 k2 k3
   simp only [hQ]
   rcases k3 with ⟨f0, f1, f2, f3, f4, f5, f6⟩ | ⟨f0, f1⟩ | ⟨f0, f1, f2, f3, f4, f5, f6⟩
   ·rw [if_neg (by rw [f0]; decide)]
    have hss : Q.1.secs = d.secs.set (s.first + s.which) (slotB (s.turn + 1) b) := f2.trans e2
    exact ⟨.inr hss, ⟨by show d.works ≤ Q.1.works; omega, by show Q.1.works ≤ _; omega⟩, k2.trans g3, .inl ⟨rfl, rfl, hss, f1, by show Q.1.Sure Q.1.secs; rw [f2]; exact f3, by show Q.1.works = _; omega, by show -1 ≤ Q.1.fail; omega, by show Q.1.fail ≤ _; omega, by show -1 ≤ Q.1.till; omega, by show Q.1.till ≤ _; omega⟩⟩
   ·have fq : Q.2 = 101 ∧ Q.1 = R.1 := by rw [f0]; exact ⟨rfl, rfl⟩
    rw [if_pos (by rw [fq.1]; decide), fq.2]
    exact ⟨.inr e2, ⟨by show d.works ≤ R.1.works; omega, by show R.1.works ≤ _; omega⟩, g3, .inr (.inl ⟨fq.1, rfl, by omega, e1, f1, fun e => by show R.1.fail = -1; omega⟩)⟩
   ·rw [if_pos (by rw [f0]; decide)]
    have hm := f6 _ ((g1 _ hq).2 (by rw [e0]; decide))
    rw [e2] at hm
    exact ⟨mixed_set hw hm, ⟨by show d.works ≤ Q.1.works; omega, by show Q.1.works ≤ _; omega⟩, k2.trans g3, .inr (.inr ⟨f0, rfl, by omega, f2, f3, f4, f5⟩)⟩
  ·exact absurd e0 h2
  ·rw [if_pos (by rw [e0]; decide)]
   have hm := (g1 _ hq).1 e0
   exact ⟨mixed_set hw hm, ⟨by show d.works ≤ R.1.works; omega, by show R.1.works ≤ _; omega⟩, g3, .inr (.inr ⟨e0, rfl, e1, e2, e3, e4, e5⟩)⟩
/-- Behind a Save: the slots are there as they were, or as they were to be. -/
theorem SOut.on {s : Sl} {d : Dev} {b : List UInt8} {r : Sl × Dev × Int} (h : SOut s d b r) (hs : SlOn s d) (ht : s.turn + 1 ≤ 1000000) (hb : b.length ≤ 100) {d' : Dev} (hd : d'.secs = r.2.1.secs) : (SlOn s d' ∧ d'.secs = d.secs) ∨ (SlOn (s.next b) d' ∧ d'.secs = d.secs.set (s.first + s.which) (slotB (s.turn + 1) b)) := by
 rcases h.secs with e | e
 ·exact .inl ⟨hs.same (fun i _ => by rw [hd, e]) (by rw [hd, e]), by rw [hd, e]⟩
 ·exact .inr ⟨hs.set ht hb (fun i _ => by rw [hd, e]) (by rw [hd, e, List.length_set]), by rw [hd, e]⟩
end Go.Proofs.YtbnflbkaogpnbaaGreat
namespace Go.Proofs.YtbnflbkaogpnbaaGreat
open Go.RowKit
theorem made_sl (w : World) (n : Nat) (hn : n ≤ maxLen) : SlAt (w.alloc (.cells (madeCells #[.int .u8 0] n) 5)) (some ⟨w.heap.size, 0, none⟩) n n (u8vs (List.replicate n 0)) := by
 have e : madeCells #[.int .u8 0] n = (u8vs (List.replicate n 0)).toArray := by
  apply Array.ext'
  rw [toList_madeCells_one]
  simp [u8vs, u8v]
 exact SlAt.blk (by rw [heap_alloc_new, e]) (by simp [u8vs]) hn
end Go.Proofs.YtbnflbkaogpnbaaGreat
namespace Go.Proofs.YtbnflbkaogpnbaaGreat
open Go.RowKit
theorem new_calm (n : Nat) : (Dev.new n).Calm := Dev.Calm.new n
end Go.Proofs.YtbnflbkaogpnbaaGreat
namespace Go.Proofs.YtbnflbkaogpnbaaGreat
open Go.RowKit
set_option maxHeartbeats 400000 in
theorem refSize12_any (n : Int) (w : World) : Calls Tryz.prog 97 #[.int .i64 n] w fun e w' => e = .returned (.int .i64 (stripSize n)) ∧ w = w' := by
 unfold stripSize
 by_cases h1 : n < 0
 ·rw [if_pos (.inl h1)]
  go_enter Tryz.func97, Tryz.ntmps97
  go_wp2
  go_ret
  exact ⟨rfl, rfl⟩
 ·by_cases h2 : 16384 < n
  ·rw [if_pos (.inr h2)]
   go_enter Tryz.func97, Tryz.ntmps97
   go_wp2
   go_ret
   exact ⟨rfl, rfl⟩
  ·rw [if_neg (by omega)]
   go_enter Tryz.func97, Tryz.ntmps97
   go_wp2
   go_ret
   exact ⟨rfl, rfl⟩
end Go.Proofs.YtbnflbkaogpnbaaGreat
namespace Go.Proofs.YtbnflbkaogpnbaaGreat
open Go.RowKit
/-- What a deed does to the blocks of a strip and its device. -/
structure Step (F F' : List Nat) (w w' : World) : Prop where
 kept : Kept F w w'
 new : ∀ j ∈ F', j ∈ F ∨ w.heap.size ≤ j
/-- A row of one's own, beside F. -/
structure RowIn (base : Nat) (w : World) (t : TypeId) (F : List Nat) (v : Value) (n : Nat) (xs : List Value) : Prop where
 own : w.ownsRow base t 1 v n xs
 ne : ∀ g, v.ownBlock = some g → g ∉ F
theorem RowIn.step {base : Nat} {w w' : World} {t : TypeId} {F F' : List Nat} {v : Value} {n : Nat} {xs : List Value} (h : RowIn base w t F v n xs) (hs : Step F F' w w') : RowIn base w' t F' v n xs :=
 ⟨row_kept h.own hs.kept h.ne, fun g e hm => by
  rcases hs.new g hm with h1 | h1
  ·exact h.ne g e h1
  ·have := (h.own.lt g e).2; omega⟩
theorem RowIn.next {base : Nat} {w w' : World} {t : TypeId} {F : List Nat} {v : Value} {n : Nat} {xs : List Value} (h : RowIn base w t F v n xs) (hk : Kept [] w w') : RowIn base w' t F v n xs := ⟨row_kept h.own hk (by simp), h.ne⟩
/-- A row to which one is appended. -/
theorem RowIn.push {base : Nat} {w w1 w2 : World} {t : TypeId} {F : List Nat} {v : Value} {n : Nat} {xs ys : List Value} (h : RowIn base w t F v n xs) (hF : ∀ j ∈ F, j < w.heap.size) (hk : Kept [] w w1) (hg : w1.grownBy w2 v.ownBlock) {g cap H n' : Nat}
  (hown : w2.ownsRow base t 1 (.slice (some ⟨g, 0, none⟩) n' cap) n' ys) (hat : v.ownBlock = some g ∨ g = H) (hH : w1.heap.size = H) : RowIn base w2 t F (.slice (some ⟨g, 0, none⟩) n' cap) n' ys ∧ Kept v.ownBlock.toList w w2 ∧ ∀ u : Value, (∀ k, u.ownBlock = some k → k < w.heap.size) → (∀ k, v.ownBlock = some k → u.ownBlock ≠ some k) → u.ownBlock ≠ some g := by
 have hs := hk.size
 refine ⟨⟨hown, fun k e hm => ?_⟩, (hk.mono (by simp)).trans (Kept.grown (F := v.ownBlock.toList) hg (fun i e => by rw [e]; simp)), fun u hu hne e => ?_⟩
 ·have e2 : g = k := by simpa [Value.ownBlock] using e
  subst e2
  rcases hat with h1 | h1
  ·exact h.ne _ h1 hm
  ·have := hF _ hm; omega
 ·rcases hat with h1 | h1
  ·exact hne g h1 e
  ·have := hu g e; omega
/-- A row of parts, as an argument. -/
theorem RowIn.parts {base : Nat} {w : World} {F : List Nat} {v : Value} {n : Nat} {ps : List Part} (h : RowIn base w 45 F v n (ps.map Part.val)) (hp : ∀ p ∈ ps, p.At w) : ∃ A c, v = .slice A n c ∧ BytessAt w A n c ps := BytessAt.of_own h.own hp
theorem one_news (X : World) (v : Value) (t : TypeId) : ∀ j u, [v][j]? = some u → (X.alloc (.cells #[v] t)).cell? ((⟨X.heap.size, 0, none⟩ : Addr).add j) = some u := fun j u hj => by
 have hj0 : j = 0 := by have := (List.getElem?_eq_some_iff.1 hj).1; simp at this; exact this
 subst hj0
 rw [add_block, blk_cell (heap_alloc_new _ _)]
 simpa using hj
theorem one_slice (A : Option Addr) (n c : Nat) : ∀ u ∈ [Value.slice A n c], u.oneCell' = true := fun u hu => by simp at hu; subst hu; rfl
end Go.Proofs.YtbnflbkaogpnbaaGreat
namespace Go.Proofs.YtbnflbkaogpnbaaGreat
set_option linter.unusedVariables false
open Go.RowKit
theorem at_live {d : Dev} (h : d.dead = false) {i : Nat} (hi : i < d.secs.length) : d.at_ (i : Int) = 0 := by simp [Dev.at_, h]; omega
end Go.Proofs.YtbnflbkaogpnbaaGreat
namespace Go.Proofs.YtbnflbkaogpnbaaGreat
set_option linter.unusedVariables false
def be4 (n : Nat) : List UInt8 := [UInt8.ofNat (n / 16777216), UInt8.ofNat (n / 65536), UInt8.ofNat (n / 256), UInt8.ofNat n]
/-- A manifest's bytes. -/
def manB (half fin many : Nat) : List UInt8 := UInt8.ofNat half :: (be4 fin ++ be4 many)
def four (b : List UInt8) : Nat := (b[0]?.getD 0).toNat * 16777216 + (b[1]?.getD 0).toNat * 65536 + (b[2]?.getD 0).toNat * 256 + (b[3]?.getD 0).toNat
def parseMan (b : List UInt8) : Option (Nat × Nat × Nat) :=
 if b.length ≠ 9 ∨ 1 < (b[0]?.getD 0).toNat then none else some ((b[0]?.getD 0).toNat, four (b.drop 1), four (b.drop 5))
theorem length_manB (h f m : Nat) : (manB h f m).length = 9 := by simp [manB, be4]
theorem four_be4 {n : Nat} (h : n < 4294967296) (t : List UInt8) : four (be4 n ++ t) = n := by
 simp only [four, be4, List.cons_append, List.nil_append, List.getElem?_cons_zero, List.getElem?_cons_succ, Option.getD_some, UInt8.toNat_ofNat']
 omega
theorem parse_manB {h f m : Nat} (h1 : h ≤ 1) (h2 : f < 4294967296) (h3 : m < 4294967296) : parseMan (manB h f m) = some (h, f, m) := by
 unfold parseMan
 have e0 : ((manB h f m)[0]?.getD 0).toNat = h := by simp [manB, UInt8.toNat_ofNat']; omega
 rw [length_manB, e0, if_neg (by omega)]
 have e1 : four ((manB h f m).drop 1) = f := by simp only [manB, List.drop_succ_cons, List.drop_zero]; exact four_be4 h2 _
 have e2 : four ((manB h f m).drop 5) = m := by
  have : (manB h f m).drop 5 = be4 m ++ [] := by simp [manB, be4]
  rw [this]; exact four_be4 h3 _
 rw [e1, e2]
/-- A log: its halves' first sector, how many sectors each has, the half that counts, how many records, its slots, its strip. -/
structure Sp where
 first : Nat
 each : Nat
 half : Nat
 many : Nat
 added : Bool
 broken : Bool
 sl : Sl
 st : St
namespace Sp
def wrong (s : Sp) (d : Dev) : Bool := s.broken || d.dead
def touch (s : Sp) (d : Dev) : Sp := { s with broken := s.broken || d.dead }
def append (s : Sp) (d : Dev) (b : List UInt8) : Sp × Dev × Int :=
 if s.wrong d then (s.touch d, d, 100)
 else if (s.st.append d b).2.2 = 0 then ({ s with st := (s.st.append d b).1, many := s.many + 1, added := true }, (s.st.append d b).2.1, 0)
 else ({ s with st := (s.st.append d b).1 }, (s.st.append d b).2.1, (s.st.append d b).2.2)
def save (s : Sp) (d : Dev) (m : List UInt8) : Sp × Dev × Int :=
 if d.flush.2 ≠ 0 then (s, d.flush.1, d.flush.2)
 else ({ s with sl := (s.sl.save d.flush.1 m).1, broken := s.broken || decide ((s.sl.save d.flush.1 m).2.2 ≠ 0) }, (s.sl.save d.flush.1 m).2.1, (s.sl.save d.flush.1 m).2.2)
def flush (s : Sp) (d : Dev) : Sp × Dev × Int :=
 if s.wrong d then (s.touch d, d, 100)
 else if s.added = false then (s, d, 0)
 else
  let r := s.save d (manB s.half s.st.fin s.many)
  ({ r.1 with added := decide (r.2.2 ≠ 0) }, r.2.1, r.2.2)
end Sp
/-- Appends, one behind the other, till one fails. -/
def St.appends (s : St) (d : Dev) : List (List UInt8) → St × Dev × Int
 | [] => (s, d, 0)
 | b :: l => if (s.append d b).2.2 = 0 then (s.append d b).1.appends (s.append d b).2.1 l else s.append d b
def allSize (l : List (List UInt8)) : Nat := (l.map fun b => b.length + 7).sum
/-- A half, empty. -/
def Sp.empty (s : Sp) (half : Nat) : St := ⟨s.first + half * s.each, s.each, 0, []⟩
def Sp.replace (s : Sp) (d : Dev) (l : List (List UInt8)) : Sp × Dev × Int :=
 if s.wrong d then (s.touch d, d, 100)
 else if l.any (fun b => decide (16384 < b.length)) then (s, d, 5)
 else if 128 * s.each < allSize l then (s, d, 101)
 else
  let r := (s.empty (1 - s.half)).appends d l
  if r.2.2 ≠ 0 then (s, r.2.1, r.2.2)
  else
   let v := s.save r.2.1 (manB (1 - s.half) r.1.fin l.length)
   if v.2.2 ≠ 0 then v else ({ v.1 with half := 1 - s.half, st := r.1, many := l.length, added := false }, v.2.1, 0)
/-- What a manifest tells. -/
structure Man (s : Sl) (half : Nat) (l : List (List UInt8)) : Prop where
 le : half ≤ 1
 zero : s.turn = 0 → half = 0 ∧ l = []
 pos : 0 < s.turn → s.text = manB half (recs l).length l.length
/-- What lies on a device of a log: its slots, the half that counts, its records. -/
structure SpDisk (F each : Nat) (d : Dev) (s : Sl) (half : Nat) (l : List (List UInt8)) : Prop where
 size : ∀ b ∈ d.secs, b.length = 128
 slOn : SlOn s d
 slF : s.first + 2 = F
 one : 1 ≤ each
 there : F + 2 * each ≤ d.secs.length
 man : Man s half l
 small : Small l
 fits : (recs l).length ≤ 128 * each
 rows : (d.bytesAt (F + half * each)).take (recs l).length = recs l
/-- A log on a device: what it has, and what is sure of it. -/
structure SpInv (s : Sp) (d : Dev) (q : List Blk) (now sure : List (List UInt8)) : Prop where
 live : d.Live
 qs : d.Sure q
 qsize : ∀ b ∈ q, b.length = 128
 ok : s.broken = false
 disk : SpDisk s.first s.each d s.sl s.half sure
 slq : ∀ i : Nat, i = s.sl.first ∨ i = s.sl.first + 1 → q[i]? = d.secs[i]?
 st : SInv s.st d now
 stf : s.st.first = s.first + s.half * s.each
 stm : s.st.many = s.each
 many : s.many = now.length
 pre : ∃ m, now = sure ++ m
 rowq : (q.drop s.st.first).flatten.take (recs sure).length = recs sure
 added : s.added = false → now = sure
theorem flatten_head {X Y : List Blk} {n : Nat} (hx : ∀ b ∈ X, b.length = 128) (hy : ∀ b ∈ Y, b.length = 128) (h : ∀ i : Nat, i < n → X[i]? = Y[i]?) {e : Nat} (he : e ≤ 128 * n) : X.flatten.take e = Y.flatten.take e := by
 apply List.ext_getElem?
 intro p
 rw [List.getElem?_take, List.getElem?_take]
 by_cases hp : p < e
 ·rw [if_pos hp, if_pos hp, flatten_at X hx, flatten_at Y hy, h _ (by omega)]
 ·rw [if_neg hp, if_neg hp]
/-- Sectors elsewhere do not count. -/
theorem SpDisk.same {F each : Nat} {d d' : Dev} {s : Sl} {half : Nat} {l : List (List UInt8)} (h : SpDisk F each d s half l) (hs : ∀ b ∈ d'.secs, b.length = 128) (hl : d'.secs.length = d.secs.length)
  (h1 : ∀ i : Nat, i = s.first ∨ i = s.first + 1 → d'.secs[i]? = d.secs[i]?) (h2 : (d'.bytesAt (F + half * each)).take (recs l).length = recs l) : SpDisk F each d' s half l :=
 ⟨hs, h.slOn.same h1 hl, h.slF, h.one, by rw [hl]; exact h.there, h.man, h.small, h.fits, h2⟩
/-- Behind a fall: each sector is what it would be, or what was sure. -/
theorem SpDisk.mixed {F each : Nat} {d d' : Dev} {s : Sl} {half : Nat} {l : List (List UInt8)} {X q : List Blk} (h : SpDisk F each d s half l) (hm : Mixed d'.secs X q) (hX : ∀ b ∈ X, b.length = 128) (hq : ∀ b ∈ q, b.length = 128) (hl : X.length = d.secs.length)
  (h1 : ∀ i : Nat, i = s.first ∨ i = s.first + 1 → X[i]? = d.secs[i]? ∧ q[i]? = d.secs[i]?) (h2 : (X.drop (F + half * each)).flatten.take (recs l).length = recs l) (h3 : (q.drop (F + half * each)).flatten.take (recs l).length = recs l) : SpDisk F each d' s half l := by
 have hsz := hm.size hX hq
 refine h.same hsz (hm.len.trans hl) (fun i hi => ?_) ?_
 ·rcases hm.at_ i with e | e
  ·rw [e]; exact (h1 i hi).1
  ·rw [e]; exact (h1 i hi).2
 ·unfold Dev.bytesAt
  refine Eq.trans ?_ h3
  refine _root_.Go.Proofs.YtbnflbkaogpnbaaGreat.mixed (s0 := q.drop (F + half * each)) (s1 := X.drop (F + half * each)) (fun b hb => hq b (List.mem_of_mem_drop hb)) (fun b hb => hX b (List.mem_of_mem_drop hb)) (fun b hb => hsz b (List.mem_of_mem_drop hb)) (fun i => ?_) (by rw [h2, h3])
  rw [List.getElem?_drop, List.getElem?_drop, List.getElem?_drop]
  exact hm.at_ _
end Go.Proofs.YtbnflbkaogpnbaaGreat
