/- The power goes: plain lemmas. -/
import Derived.Test.YtbnflbkaogpnbaaW2
namespace Go.Proofs.Ytbnflbkaogpnbaa
open Go.RowKit Go.Maps

theorem Dev.backs_append (keep : List Int) (f : Nat → Blk) (i : Nat) : ∀ (l : List Nat) (k : Nat) (s : List Blk),
    Dev.backs keep f k (l ++ [i]) s = if Dev.lost keep (k + l.length) then (Dev.backs keep f k l s).set i (f i) else Dev.backs keep f k l s := by
  intro l
  induction l with
  | nil => intro k s; simp [Dev.backs]
  | cons x r ih =>
    intro k s
    simp only [List.cons_append, Dev.backs]
    rw [ih]
    simp only [List.length_cons]
    have e : k + 1 + r.length = k + (r.length + 1) := by omega
    rw [e]

/-- The cell of a slice of ints at i, where there is one. -/
theorem SlAt.int_at {w : World} {A : Option Addr} {n c : Nat} {xs : List Int} (h : SlAt w A n c (xs.map i64v)) {k : Nat} (hk : k < n) :
    ∃ b o, A = some ⟨b, o, none⟩ ∧ b < w.heap.size ∧ w.cell? ⟨b, o + k, none⟩ = some (.int .i64 (xs[k]?.getD 0)) := by
  obtain ⟨b, o, hA, hb, hc⟩ := h.cells (by omega)
  have hl := h.len
  simp only [List.length_map] at hl
  refine ⟨b, o, hA, hb, ?_⟩
  rw [hc k hk, List.getElem?_map, List.getElem?_eq_getElem (by omega)]
  rfl

/-- The device in the midst of a loss. -/
def Dev.part (d : Dev) (keep : List Int) (j : Nat) : Dev := { d with secs := Dev.backs keep (fun i => (Dev.look d.sure i).getD []) 0 (d.keys.take j) d.secs }

theorem Dev.key_lt {d : Dev} (h : d.Wf) {i : Nat} (hi : i ∈ d.keys) : i < d.secs.length := by
  obtain ⟨p, hp, rfl⟩ := List.mem_map.1 (Dev.mem_keys.1 hi)
  exact h.keyIn p hp

theorem Dev.part_succ {d : Dev} {keep : List Int} {j : Nat} (hj : j < d.keys.length) :
    d.part keep (j + 1) = if Dev.lost keep j then { d.part keep j with secs := (d.part keep j).secs.set d.keys[j] ((Dev.look d.sure d.keys[j]).getD []) } else d.part keep j := by
  unfold Dev.part
  rw [List.take_succ_eq_append_getElem hj, Dev.backs_append]
  have e : 0 + (d.keys.take j).length = j := by simp; omega
  rw [e]
  split <;> rfl

theorem Dev.wf_part {d : Dev} (h : d.Wf) (keep : List Int) (j : Nat) : (d.part keep j).Wf := { h with
  one := by simpa [Dev.part, Dev.length_backs] using h.one
  many := by simpa [Dev.part, Dev.length_backs] using h.many
  size := by
    refine Dev.size_backs _ _ _ _ _ h.size ?_
    intro i hi
    obtain ⟨b, hb⟩ := Dev.look_of_key (Dev.mem_keys.1 (List.mem_of_mem_take hi))
    rw [hb]
    exact h.sureSize _ (Dev.look_mem hb)
  keyIn := by simpa [Dev.part, Dev.length_backs] using h.keyIn }
end Go.Proofs.Ytbnflbkaogpnbaa
