/- The log, on the plain models of a device, its strip and its slots. No program in sight. -/
import Derived.Test.YtbnflbkaogpnbaaS6
import Derived.Test.YtbnflbkaogpnbaaO1
namespace Go.Proofs.Ytbnflbkaogpnbaa
set_option linter.unusedVariables false

def be4 (n : Nat) : List UInt8 := [UInt8.ofNat (n / 16777216), UInt8.ofNat (n / 65536), UInt8.ofNat (n / 256), UInt8.ofNat n]
/-- A manifest's bytes. -/
def manB (half fin many : Nat) : List UInt8 := UInt8.ofNat half :: (be4 fin ++ be4 many)
def four (b : List UInt8) : Nat := (b[0]?.getD 0).toNat * 16777216 + (b[1]?.getD 0).toNat * 65536 + (b[2]?.getD 0).toNat * 256 + (b[3]?.getD 0).toNat
def parseMan (b : List UInt8) : Option (Nat × Nat × Nat) :=
  if b.length ≠ 9 ∨ 1 < (b[0]?.getD 0).toNat then none else some ((b[0]?.getD 0).toNat, four (b.drop 1), four (b.drop 5))

theorem length_manB (h f m : Nat) : (manB h f m).length = 9 := by simp [manB, be4]
theorem four_be4 {n : Nat} (h : n < 4294967296) (t : List UInt8) : four (be4 n ++ t) = n := by
  simp only [four, be4, List.cons_append, List.nil_append, List.getElem?_cons_zero, List.getElem?_cons_succ, Option.getD_some, UInt8.toNat_ofNat']
  omega
theorem parse_manB {h f m : Nat} (h1 : h ≤ 1) (h2 : f < 4294967296) (h3 : m < 4294967296) : parseMan (manB h f m) = some (h, f, m) := by
  unfold parseMan
  have e0 : ((manB h f m)[0]?.getD 0).toNat = h := by simp [manB, UInt8.toNat_ofNat']; omega
  rw [length_manB, e0, if_neg (by omega)]
  have e1 : four ((manB h f m).drop 1) = f := by simp only [manB, List.drop_succ_cons, List.drop_zero]; exact four_be4 h2 _
  have e2 : four ((manB h f m).drop 5) = m := by
    have : (manB h f m).drop 5 = be4 m ++ [] := by simp [manB, be4]
    rw [this]; exact four_be4 h3 _
  rw [e1, e2]

/-- A log: its halves' first sector, how many sectors each has, the half that counts, how many records, its slots, its strip. -/
structure Sp where
  first : Nat
  each : Nat
  half : Nat
  many : Nat
  added : Bool
  broken : Bool
  sl : Sl
  st : St

namespace Sp
def wrong (s : Sp) (d : Dev) : Bool := s.broken || d.dead
def touch (s : Sp) (d : Dev) : Sp := { s with broken := s.broken || d.dead }
def append (s : Sp) (d : Dev) (b : List UInt8) : Sp × Dev × Int :=
  if s.wrong d then (s.touch d, d, 100)
  else if (s.st.append d b).2.2 = 0 then ({ s with st := (s.st.append d b).1, many := s.many + 1, added := true }, (s.st.append d b).2.1, 0)
  else ({ s with st := (s.st.append d b).1 }, (s.st.append d b).2.1, (s.st.append d b).2.2)
def save (s : Sp) (d : Dev) (m : List UInt8) : Sp × Dev × Int :=
  if d.flush.2 ≠ 0 then (s, d.flush.1, d.flush.2)
  else ({ s with sl := (s.sl.save d.flush.1 m).1, broken := s.broken || decide ((s.sl.save d.flush.1 m).2.2 ≠ 0) }, (s.sl.save d.flush.1 m).2.1, (s.sl.save d.flush.1 m).2.2)
def flush (s : Sp) (d : Dev) : Sp × Dev × Int :=
  if s.wrong d then (s.touch d, d, 100)
  else if s.added = false then (s, d, 0)
  else
    let r := s.save d (manB s.half s.st.fin s.many)
    ({ r.1 with added := decide (r.2.2 ≠ 0) }, r.2.1, r.2.2)
end Sp

/-- Appends, one behind the other, till one fails. -/
def St.appends (s : St) (d : Dev) : List (List UInt8) → St × Dev × Int
  | [] => (s, d, 0)
  | b :: l => if (s.append d b).2.2 = 0 then (s.append d b).1.appends (s.append d b).2.1 l else s.append d b

def allSize (l : List (List UInt8)) : Nat := (l.map fun b => b.length + 7).sum

/-- A half, empty. -/
def Sp.empty (s : Sp) (half : Nat) : St := ⟨s.first + half * s.each, s.each, 0, []⟩

def Sp.replace (s : Sp) (d : Dev) (l : List (List UInt8)) : Sp × Dev × Int :=
  if s.wrong d then (s.touch d, d, 100)
  else if l.any (fun b => decide (16384 < b.length)) then (s, d, 5)
  else if 128 * s.each < allSize l then (s, d, 101)
  else
    let r := (s.empty (1 - s.half)).appends d l
    if r.2.2 ≠ 0 then (s, r.2.1, r.2.2)
    else
      let v := s.save r.2.1 (manB (1 - s.half) r.1.fin l.length)
      if v.2.2 ≠ 0 then v else ({ v.1 with half := 1 - s.half, st := r.1, many := l.length, added := false }, v.2.1, 0)

/-- What a manifest tells. -/
structure Man (s : Sl) (half : Nat) (l : List (List UInt8)) : Prop where
  le : half ≤ 1
  zero : s.turn = 0 → half = 0 ∧ l = []
  pos : 0 < s.turn → s.text = manB half (recs l).length l.length

/-- What lies on a device of a log: its slots, the half that counts, its records. -/
structure SpDisk (F each : Nat) (d : Dev) (s : Sl) (half : Nat) (l : List (List UInt8)) : Prop where
  size : ∀ b ∈ d.secs, b.length = 128
  slOn : SlOn s d
  slF : s.first + 2 = F
  one : 1 ≤ each
  there : F + 2 * each ≤ d.secs.length
  man : Man s half l
  small : Small l
  fits : (recs l).length ≤ 128 * each
  rows : (d.bytesAt (F + half * each)).take (recs l).length = recs l

/-- A log on a device: what it has, and what is sure of it. -/
structure SpInv (s : Sp) (d : Dev) (q : List Blk) (now sure : List (List UInt8)) : Prop where
  live : d.Live
  qs : d.Sure q
  qsize : ∀ b ∈ q, b.length = 128
  ok : s.broken = false
  disk : SpDisk s.first s.each d s.sl s.half sure
  slq : ∀ i : Nat, i = s.sl.first ∨ i = s.sl.first + 1 → q[i]? = d.secs[i]?
  st : SInv s.st d now
  stf : s.st.first = s.first + s.half * s.each
  stm : s.st.many = s.each
  many : s.many = now.length
  pre : ∃ m, now = sure ++ m
  rowq : (q.drop s.st.first).flatten.take (recs sure).length = recs sure
  added : s.added = false → now = sure

theorem flatten_head {X Y : List Blk} {n : Nat} (hx : ∀ b ∈ X, b.length = 128) (hy : ∀ b ∈ Y, b.length = 128) (h : ∀ i : Nat, i < n → X[i]? = Y[i]?) {e : Nat} (he : e ≤ 128 * n) : X.flatten.take e = Y.flatten.take e := by
  apply List.ext_getElem?
  intro p
  rw [List.getElem?_take, List.getElem?_take]
  by_cases hp : p < e
  · rw [if_pos hp, if_pos hp, flatten_at X hx, flatten_at Y hy, h _ (by omega)]
  · rw [if_neg hp, if_neg hp]

/-- Sectors elsewhere do not count. -/
theorem SpDisk.same {F each : Nat} {d d' : Dev} {s : Sl} {half : Nat} {l : List (List UInt8)} (h : SpDisk F each d s half l) (hs : ∀ b ∈ d'.secs, b.length = 128) (hl : d'.secs.length = d.secs.length)
    (h1 : ∀ i : Nat, i = s.first ∨ i = s.first + 1 → d'.secs[i]? = d.secs[i]?) (h2 : (d'.bytesAt (F + half * each)).take (recs l).length = recs l) : SpDisk F each d' s half l :=
  ⟨hs, h.slOn.same h1 hl, h.slF, h.one, by rw [hl]; exact h.there, h.man, h.small, h.fits, h2⟩

/-- Behind a fall: each sector is what it would be, or what was sure. -/
theorem SpDisk.mixed {F each : Nat} {d d' : Dev} {s : Sl} {half : Nat} {l : List (List UInt8)} {X q : List Blk} (h : SpDisk F each d s half l) (hm : Mixed d'.secs X q) (hX : ∀ b ∈ X, b.length = 128) (hq : ∀ b ∈ q, b.length = 128) (hl : X.length = d.secs.length)
    (h1 : ∀ i : Nat, i = s.first ∨ i = s.first + 1 → X[i]? = d.secs[i]? ∧ q[i]? = d.secs[i]?) (h2 : (X.drop (F + half * each)).flatten.take (recs l).length = recs l) (h3 : (q.drop (F + half * each)).flatten.take (recs l).length = recs l) : SpDisk F each d' s half l := by
  have hsz := hm.size hX hq
  refine h.same hsz (hm.len.trans hl) (fun i hi => ?_) ?_
  · rcases hm.at_ i with e | e
    · rw [e]; exact (h1 i hi).1
    · rw [e]; exact (h1 i hi).2
  · unfold Dev.bytesAt
    refine Eq.trans ?_ h3
    refine _root_.Go.Proofs.Ytbnflbkaogpnbaa.mixed (s0 := q.drop (F + half * each)) (s1 := X.drop (F + half * each)) (fun b hb => hq b (List.mem_of_mem_drop hb)) (fun b hb => hX b (List.mem_of_mem_drop hb)) (fun b hb => hsz b (List.mem_of_mem_drop hb)) (fun i => ?_) (by rw [h2, h3])
    rw [List.getElem?_drop, List.getElem?_drop, List.getElem?_drop]
    exact hm.at_ _
end Go.Proofs.Ytbnflbkaogpnbaa
