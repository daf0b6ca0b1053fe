/- Texts in one: R0 R1 R2 R3. -/
import Derived.Test.YtbnflbkaogpnbaaMD
import Derived.Deep.Slices
import Derived.Deep.Fields
import Derived.ProofKit
import Derived.SizedLaws
import Derived.OpenShut
import Derived.Test.YtbnflbkaogpnbaaUA
/- Arguments, opened: slices of ints, of bytes, of deeds. -/
namespace Go.Proofs.Ytbnflbkaogpnbaa
open Go.RowKit Go.ChangeShapes Go.WideShapes Go.Deep

section
variable {H : Type} {enc : TypeId × Value → H} {w : World}

theorem mem_weightsAll {P : Program} {e : TypeId} {l : List (DataW H)} {d : DataW H} (hd : d ∈ l) {n : Nat} (hn : n ∈ d.weights P e) : n ∈ DataW.weightsAll P e l := by
  induction l with
  | nil => cases hd
  | cons x r ih =>
    rw [DataW.weightsAll, List.mem_append]
    rcases List.mem_cons.1 hd with h | h
    · subst h; exact .inl hn
    · exact .inr (ih h)

/-- What is read weighs no more than the form's reach. -/
def Light (t : TypeId) (d : DataW H) : Prop := ∀ n ∈ d.weights Try.prog t, n ≤ reachBytes

theorem light_of {ts : List TypeId} {ds : List (DataW H)} (h : (DataW.weightsEach Try.prog ts ds).all (· ≤ reachBytes) = true) {j : Nat} {t : TypeId} {d : DataW H} (ht : ts[j]? = some t) (hd : ds[j]? = some d) : Light t d :=
  fun n hn => by simpa using List.all_eq_true.1 h n (DataW.weights_mem_each ht hd n hn)

theorem Light.elem {t e : TypeId} {elems spare : List (DataW H)} (h : Light t (.slice elems spare)) (ht : Try.prog.underlying t = some (.slice e)) {d : DataW H} (hd : d ∈ elems) : Light e d := by
  intro n hn
  refine h n ?_
  simp only [DataW.weights, ht, List.mem_cons, List.mem_append]
  exact .inr (.inl (mem_weightsAll hd hn))

theorem Light.bytes {t e : TypeId} {elems spare : List (DataW H)} (h : Light t (.slice elems spare)) (ht : Try.prog.underlying t = some (.slice e)) : (elems.length + spare.length) * Try.prog.bytesOf e ≤ reachBytes := by
  refine h _ ?_
  simp only [DataW.weights, ht, List.mem_cons]
  exact .inl trivial

theorem Light.field {t : TypeId} {fs : Array Field} {parts : List (DataW H)} (h : Light t (.agg parts)) (ht : Try.prog.underlying t = some (.struct fs)) {j : Nat} {f : Field} {d : DataW H} (hf : fs[j]? = some f) (hd : parts[j]? = some d) : Light f.type d := by
  intro n hn
  refine h n ?_
  simp only [DataW.weights, ht]
  exact DataW.weights_mem_each (ts := fs.toList.map (·.type)) (j := j) (by rw [List.getElem?_map]; simp [hf]) hd n hn

theorem addr_of_cell {a : Addr} {v : Value} (h : w.cell? (a.add 0) = some v) : ∃ b o, a = ⟨b, o, none⟩ ∧ b < w.heap.size := by
  have e : a.add 0 = a := by simp [Addr.add]
  rw [e] at h
  have hs := World.cell?_spot h
  have hb := block_lt_of_cell h
  obtain ⟨b, o, s⟩ := a
  simp only at hs
  subst hs
  exact ⟨b, o, rfl, hb⟩

theorem bytesOf_int : Try.prog.bytesOf 3 = 8 := by kernel_rfl
theorem bytesOf_u8 : Try.prog.bytesOf 5 = 1 := by kernel_rfl
theorem cellsOf_int : Try.prog.cellsOf 3 = 1 := by kernel_rfl
theorem cellsOf_u8 : Try.prog.cellsOf 5 = 1 := by kernel_rfl
end

section
variable {H : Type} {enc : TypeId × Value → H} {w : World} {base : Nat} {held : Bool}

theorem reach_val : reachBytes = 140737488351232 := rfl

theorem wf_I64 {n : Int} (h : (Lit.int .i64 n).wf = true) : I64 n := by
  have := bounds_i64 h
  exact this

/-- A slice of ints that came in. -/
theorem open_ints_sl {fuel : Nat} {cs : List Value} {x : DataW H × List MemPlace} (h : DataW.trod enc Try.prog w base (fun _ => true) held fuel 23 cs = some x) (hl : Light 23 x.1) :
    ∃ (A : Option Addr) (n c : Nat) (zs : List Int), cs = [.slice A n c] ∧ SlAt w A n c (zs.map i64v) ∧ (∀ z ∈ zs, I64 z) ∧ n * 8 ≤ 140737488351232 := by
  rcases open_ints Try.underlying23 Try.underlying3 cellsOf_int h with ⟨rfl, _⟩ | ⟨a, len, cap, zs, rfl, _, hle, hm, hz, hx, hc, hwf⟩
  · exact ⟨none, 0, 0, [], rfl, SlAt.nil w, by simp, by omega⟩
  · have hz' : zs.length = cap := by simpa using hz
    rw [hx] at hl
    have hb := hl.bytes Try.underlying23
    rw [bytesOf_int, reach_val] at hb
    simp only [lits, List.length_map, List.length_take, List.length_drop, hz'] at hb
    refine ⟨some a, len, cap, zs.take len, rfl, ⟨by simp; omega, hle, hm, fun hn => ?_⟩, fun z hz => wf_I64 (hwf z (List.mem_of_mem_take hz)), by omega⟩
    obtain ⟨b, o, rfl, hb⟩ := addr_of_cell (hc 0 (by omega))
    refine ⟨b, o, rfl, hb, fun i hi => ?_⟩
    have h1 := hc i (by omega)
    rw [add_block] at h1
    rw [h1, List.getElem?_map, List.getElem?_take, if_pos hi, List.getD_eq_getElem?_getD, List.getElem?_eq_getElem (by omega)]
    rfl
end

section
variable {H : Type} {enc : TypeId × Value → H} {w : World} {base : Nat} {held : Bool}

theorem bytes_of_wf : ∀ (zs : List Int), (∀ n ∈ zs, (Lit.int .u8 n).wf = true) → zs.map (fun n => Value.int .u8 n) = u8vs (zs.map byteOf) := by
  intro zs h
  induction zs with
  | nil => rfl
  | cons z r ih =>
    have hb := bounds_u8 (h z List.mem_cons_self)
    have e : ((byteOf z).toNat : Int) = z := by rw [byteOf_val]; omega
    rw [List.map_cons, ih (fun n hn => h n (List.mem_cons_of_mem _ hn))]
    simp only [u8vs, List.map_cons, u8v, e]

/-- A slice of bytes that came in. -/
theorem open_bytes_sl {fuel : Nat} {cs : List Value} {x : DataW H × List MemPlace} (h : DataW.trod enc Try.prog w base (fun _ => true) held fuel 34 cs = some x) (hl : Light 34 x.1) :
    ∃ (A : Option Addr) (n c : Nat) (bs : List UInt8), cs = [.slice A n c] ∧ SlAt w A n c (u8vs bs) ∧ n ≤ 140737488351232 := by
  rcases open_ints Try.underlying34 Try.underlying5 cellsOf_u8 h with ⟨rfl, _⟩ | ⟨a, len, cap, zs, rfl, _, hle, hm, hz, hx, hc, hwf⟩
  · exact ⟨none, 0, 0, [], rfl, SlAt.nil w, by omega⟩
  · have hz' : zs.length = cap := by simpa using hz
    rw [hx] at hl
    have hb := hl.bytes Try.underlying34
    rw [bytesOf_u8, reach_val] at hb
    simp only [lits, List.length_map, List.length_take, List.length_drop, hz'] at hb
    refine ⟨some a, len, cap, (zs.take len).map byteOf, rfl, ⟨by simp [u8vs]; omega, hle, hm, fun hn => ?_⟩, by omega⟩
    obtain ⟨b, o, rfl, hb⟩ := addr_of_cell (hc 0 (by omega))
    refine ⟨b, o, rfl, hb, fun i hi => ?_⟩
    have h1 := hc i (by omega)
    rw [add_block] at h1
    rw [h1, ← bytes_of_wf _ (fun n hn => hwf n (List.mem_of_mem_take hn)), List.getElem?_map, List.getElem?_take, if_pos hi, List.getD_eq_getElem?_getD, List.getElem?_eq_getElem (by omega)]
    rfl

theorem cellsOf_deed10 : Try.prog.cellsOf 31 = 5 := by kernel_rfl

set_option maxRecDepth 100000 in
/-- A deed that came in: its cells. -/
theorem open_deed10 {fuel : Nat} {cs : List Value} {x : DataW H × List MemPlace} (h : DataW.trod enc Try.prog w base (fun _ => true) held fuel 31 cs = some x) (hl : Light 31 x.1) :
    ∃ d : DeedR, cs = [.int .i64 d.kind, .int .i64 d.a, .int .i64 d.b, .int .i64 d.short, .slice d.kA d.kn d.kc] ∧ d.Ok w := by
  obtain ⟨xs, n, _, hx, hlen, hxl, hf⟩ := DataW.trod_struct Try.underlying31 h
  rw [cellsOf_deed10] at hlen
  match cs, hlen with
  | [c0, c1, c2, c3, c4], _ =>
    match xs, hxl with
    | [y0, y1, y2, y3, y4], _ =>
      have f0 : DataW.trod enc Try.prog w base (fun _ => true) held n 3 [c0] = some y0 := by simpa [cellsOf_int] using hf 0 _ rfl
      have f1 : DataW.trod enc Try.prog w base (fun _ => true) held n 3 [c1] = some y1 := by simpa [cellsOf_int] using hf 1 _ rfl
      have f2 : DataW.trod enc Try.prog w base (fun _ => true) held n 3 [c2] = some y2 := by simpa [cellsOf_int] using hf 2 _ rfl
      have f3 : DataW.trod enc Try.prog w base (fun _ => true) held n 3 [c3] = some y3 := by simpa [cellsOf_int] using hf 3 _ rfl
      have f4 : DataW.trod enc Try.prog w base (fun _ => true) held n 23 [c4] = some y4 := by
        have hc : Try.prog.cellsOf 23 = 1 := by kernel_rfl
        simpa [hc] using hf 4 _ rfl
      rw [hx] at hl
      obtain ⟨k, e0, _, w0⟩ := DataW.trod_int Try.underlying3 f0
      obtain ⟨a, e1, _, w1⟩ := DataW.trod_int Try.underlying3 f1
      obtain ⟨b, e2, _, w2⟩ := DataW.trod_int Try.underlying3 f2
      obtain ⟨s, e3, _, w3⟩ := DataW.trod_int Try.underlying3 f3
      obtain ⟨A, m, c, zs, e4, hs, hz, hm⟩ := open_ints_sl f4 (hl.field Try.underlying31 (j := 4) rfl rfl)
      simp only [List.cons.injEq, and_true] at e0 e1 e2 e3 e4
      subst e0 e1 e2 e3 e4
      exact ⟨⟨k, a, b, s, A, m, c, zs⟩, rfl, ⟨wf_I64 w0, wf_I64 w1, wf_I64 w2, wf_I64 w3, hs, hm, hz⟩⟩

/-- A slice of deeds that came in. -/
theorem open_deeds10 {fuel : Nat} {cs : List Value} {x : DataW H × List MemPlace} (h : DataW.trod enc Try.prog w base (fun _ => true) held fuel 22 cs = some x) (hl : Light 22 x.1) :
    ∃ (A : Option Addr) (n c : Nat) (l : List DeedR), cs = [.slice A n c] ∧ DeedsAt w A n c l := by
  rcases open_slice Try.underlying22 h with ⟨rfl, _⟩ | ⟨a, len, cap, m, n, D, Pl, rfl, hb, hle, hm, hmm, hx, hi⟩
  · exact ⟨none, 0, 0, [], rfl, ⟨rfl, Nat.le_refl _, by unfold maxLen; omega, by simp, fun h => by omega⟩⟩
  · simp only [if_true] at hmm
    rw [hx] at hl
    have hex : ∀ i, ∃ d : DeedR, i < len → (w.cells? base (a.add (i * 5)) 5 = some [.int .i64 d.kind, .int .i64 d.a, .int .i64 d.b, .int .i64 d.short, .slice d.kA d.kn d.kc] ∧ d.Ok w) := by
      intro i
      by_cases hil : i < len
      · obtain ⟨cs', hc, ht⟩ := hi i (by omega)
        rw [cellsOf_deed10] at hc
        obtain ⟨d, hd, hok⟩ := open_deed10 ht (hl.elem Try.underlying22 (List.mem_map.2 ⟨i, List.mem_range.2 hil, rfl⟩))
        exact ⟨d, fun _ => ⟨by rw [hc, hd], hok⟩⟩
      · exact ⟨⟨0, 0, 0, 0, none, 0, 0, []⟩, fun h => absurd h hil⟩
    obtain ⟨f, hf⟩ := Classical.axiomOfChoice hex
    refine ⟨some a, len, cap, (List.range len).map f, rfl, ⟨by simp, hle, hm, ?_, fun hn => ?_⟩⟩
    · intro d hd
      obtain ⟨i, hi', rfl⟩ := List.mem_map.1 hd
      exact (hf i (List.mem_range.1 hi')).2
    · have h00 := World.cells?_some (hf 0 hn).1
      have h0 := h00.2.2 0 (by omega)
      have e0 : a.add (0 * 5) = a := by simp [Addr.add]
      rw [e0] at h0
      obtain ⟨b, o, rfl, hb'⟩ := addr_of_cell h0
      refine ⟨b, o, rfl, hb', fun i d hd => ?_⟩
      rw [List.getElem?_map, Option.map_eq_some_iff] at hd
      obtain ⟨j, hj, rfl⟩ := hd
      obtain ⟨hjl, rfl⟩ := List.getElem?_eq_some_iff.1 hj
      simp only [List.length_range] at hjl
      simp only [List.getElem_range]
      obtain ⟨_, _, hat⟩ := World.cells?_some (hf i hjl).1
      rw [add_block] at hat
      refine ⟨?_, ?_, ?_, ?_, ?_⟩
      · have := hat 0 (by omega); rwa [add_block, Nat.add_zero] at this
      · have := hat 1 (by omega); rwa [add_block] at this
      · have := hat 2 (by omega); rwa [add_block] at this
      · have := hat 3 (by omega); rwa [add_block] at this
      · have := hat 4 (by omega); rwa [add_block] at this

theorem deeds10_in {a : Option Addr} {n c : Nat} {d : DataW H} {p : List MemPlace} (h : DataW.Trod enc Try.prog w base (fun _ => true) held 22 (.slice a n c) d p) (hl : Light 22 d) : ∃ l, DeedsAt w a n c l := by
  obtain ⟨fuel, hf⟩ := h
  obtain ⟨A, n', c', l, e, hs⟩ := open_deeds10 hf hl
  simp only [Value.cells, List.cons.injEq, and_true, Value.slice.injEq] at e
  obtain ⟨rfl, rfl, rfl⟩ := e
  exact ⟨l, hs⟩

theorem ints_in {a : Option Addr} {n c : Nat} {d : DataW H} {p : List MemPlace} (h : DataW.Trod enc Try.prog w base (fun _ => true) held 23 (.slice a n c) d p) (hl : Light 23 d) :
    ∃ l : List Int, SlAt w a n c (l.map i64v) ∧ (∀ z ∈ l, I64 z) ∧ n * 8 ≤ 140737488351232 := by
  obtain ⟨fuel, hf⟩ := h
  obtain ⟨A, n', c', l, e, hs⟩ := open_ints_sl hf hl
  simp only [Value.cells, List.cons.injEq, and_true, Value.slice.injEq] at e
  obtain ⟨rfl, rfl, rfl⟩ := e
  exact ⟨l, hs⟩

theorem bytes_in {a : Option Addr} {n c : Nat} {d : DataW H} {p : List MemPlace} (h : DataW.Trod enc Try.prog w base (fun _ => true) held 34 (.slice a n c) d p) (hl : Light 34 d) :
    ∃ l : List UInt8, SlAt w a n c (u8vs l) ∧ n ≤ 140737488351232 := by
  obtain ⟨fuel, hf⟩ := h
  obtain ⟨A, n', c', l, e, hs⟩ := open_bytes_sl hf hl
  simp only [Value.cells, List.cons.injEq, and_true, Value.slice.injEq] at e
  obtain ⟨rfl, rfl, rfl⟩ := e
  exact ⟨l, hs⟩
end
end Go.Proofs.Ytbnflbkaogpnbaa

/- Arguments, opened: slices of rows of bytes. -/
namespace Go.Proofs.Ytbnflbkaogpnbaa
open Go.RowKit Go.ChangeShapes Go.WideShapes Go.Deep

section
variable {H : Type} {enc : TypeId × Value → H} {w : World} {base : Nat} {held : Bool}

theorem open_bytes_sl' {fuel : Nat} {cs : List Value} {x : DataW H × List MemPlace} (h : DataW.trod enc Try.prog w base (fun _ => true) held fuel 34 cs = some x) (hl : Light 34 x.1) :
    ∃ (A : Option Addr) (n c : Nat) (bs : List UInt8), cs = [.slice A n c] ∧ SlAt w A n c (u8vs bs) ∧ n ≤ 140737488351232 ∧ (A = none → c = 0) := by
  obtain ⟨A, n, c, bs, hcs, hs, hn⟩ := open_bytes_sl h hl
  refine ⟨A, n, c, bs, hcs, hs, hn, fun e => ?_⟩
  rcases open_ints Try.underlying34 Try.underlying5 cellsOf_u8 h with ⟨e2, _⟩ | ⟨a, len, cap, zs, e2, _⟩
  · rw [hcs] at e2
    cases e2
    rfl
  · rw [hcs, e] at e2
    cases e2

theorem cellsOf_bytes : Try.prog.cellsOf 34 = 1 := by kernel_rfl

theorem open_bytess_sl {fuel : Nat} {cs : List Value} {x : DataW H × List MemPlace} (h : DataW.trod enc Try.prog w base (fun _ => true) held fuel 64 cs = some x) (hl : Light 64 x.1) :
    ∃ (A : Option Addr) (n c : Nat) (l : List Part), cs = [.slice A n c] ∧ BytessAt w A n c l := by
  rcases open_slice Try.underlying64 h with ⟨rfl, _⟩ | ⟨a, len, cap, m, n, D, Pl, rfl, hb, hle, hm, hmm, hx, hi⟩
  · exact ⟨none, 0, 0, [], rfl, BytessAt.nil w⟩
  · simp only [if_true] at hmm
    rw [hx] at hl
    have hex : ∀ i, ∃ p : Part, i < len → (w.cells? base (a.add (i * 1)) 1 = some [p.val] ∧ p.At w) := by
      intro i
      by_cases hil : i < len
      · obtain ⟨cs', hc, ht⟩ := hi i (by omega)
        rw [cellsOf_bytes] at hc
        obtain ⟨A, n', c', bs, hd, hs, _, h0⟩ := open_bytes_sl' ht (hl.elem Try.underlying64 (List.mem_map.2 ⟨i, List.mem_range.2 hil, rfl⟩))
        exact ⟨⟨A, n', c', bs⟩, fun _ => ⟨by rw [hc, hd]; rfl, hs, h0⟩⟩
      · exact ⟨⟨none, 0, 0, []⟩, fun h => absurd h hil⟩
    obtain ⟨f, hf⟩ := Classical.axiomOfChoice hex
    refine ⟨some a, len, cap, (List.range len).map f, rfl, ⟨by simp, hle, hm, ?_, fun hn => ?_⟩⟩
    · intro d hd
      obtain ⟨i, hi', rfl⟩ := List.mem_map.1 hd
      exact (hf i (List.mem_range.1 hi')).2
    · have h00 := World.cells?_some (hf 0 hn).1
      have h0 := h00.2.2 0 (by omega)
      have e0 : a.add (0 * 1) = a := by simp [Addr.add]
      rw [e0] at h0
      obtain ⟨b, o, rfl, hb'⟩ := addr_of_cell h0
      refine ⟨b, o, rfl, hb', fun i d hd => ?_⟩
      rw [List.getElem?_map, Option.map_eq_some_iff] at hd
      obtain ⟨j, hj, rfl⟩ := hd
      obtain ⟨hjl, rfl⟩ := List.getElem?_eq_some_iff.1 hj
      simp only [List.length_range] at hjl
      simp only [List.getElem_range]
      obtain ⟨_, _, hat⟩ := World.cells?_some (hf i hjl).1
      rw [add_block] at hat
      have := hat 0 (by omega)
      rwa [add_block, Nat.add_zero, Nat.mul_one] at this

theorem bytess_in {a : Option Addr} {n c : Nat} {d : DataW H} {p : List MemPlace} (h : DataW.Trod enc Try.prog w base (fun _ => true) held 64 (.slice a n c) d p) (hl : Light 64 d) : ∃ l, BytessAt w a n c l := by
  obtain ⟨fuel, hf⟩ := h
  obtain ⟨A, n', c', l, e, hs⟩ := open_bytess_sl hf hl
  simp only [Value.cells, List.cons.injEq, and_true, Value.slice.injEq] at e
  obtain ⟨rfl, rfl, rfl⟩ := e
  exact ⟨l, hs⟩
end
end Go.Proofs.Ytbnflbkaogpnbaa

/- Arguments, opened: where a strip is. -/
namespace Go.Proofs.Ytbnflbkaogpnbaa
open Go.RowKit Go.ChangeShapes Go.WideShapes Go.Deep

section
variable {H : Type} {enc : TypeId × Value → H} {w : World} {base : Nat} {held : Bool}

theorem cellsOf_where12 : Try.prog.cellsOf 74 = 2 := by kernel_rfl

set_option maxRecDepth 100000 in
theorem where_in {cs : Array Value} {d : DataW H} {p : List MemPlace} (h : DataW.Trod enc Try.prog w base (fun _ => true) held 74 (.agg cs) d p) : ∃ a b, cs = #[.int .i64 a, .int .i64 b] ∧ I64 a ∧ I64 b := by
  obtain ⟨fuel, hf0⟩ := h
  obtain ⟨xs, n, _, hx, hlen, hxl, hf⟩ := DataW.trod_struct Try.underlying74 hf0
  rw [cellsOf_where12] at hlen
  have hcl : cs.toList.length = 2 := hlen
  obtain ⟨cl⟩ := cs
  match cl, hcl with
  | [c0, c1], _ =>
    match xs, hxl with
    | [y0, y1], _ =>
      have f0 : DataW.trod enc Try.prog w base (fun _ => true) held n 3 [c0] = some y0 := by simpa [cellsOf_int, Value.cells] using hf 0 _ rfl
      have f1 : DataW.trod enc Try.prog w base (fun _ => true) held n 3 [c1] = some y1 := by simpa [cellsOf_int, Value.cells] using hf 1 _ rfl
      obtain ⟨a, e0, _, w0⟩ := DataW.trod_int Try.underlying3 f0
      obtain ⟨b, e1, _, w1⟩ := DataW.trod_int Try.underlying3 f1
      simp only [List.cons.injEq, and_true] at e0 e1
      subst e0 e1
      exact ⟨a, b, rfl, wf_I64 w0, wf_I64 w1⟩
end
end Go.Proofs.Ytbnflbkaogpnbaa

/- Arguments, opened: deeds of the chapters 11 and 13. -/
namespace Go.Proofs.Ytbnflbkaogpnbaa
open Go.RowKit Go.ChangeShapes Go.WideShapes Go.Deep

theorem cellsOf_bytess : Try.prog.cellsOf 64 = 1 := by kernel_rfl
theorem cellsOf_ints : Try.prog.cellsOf 23 = 1 := by kernel_rfl

section
variable {H : Type} {enc : TypeId × Value → H} {w : World} {base : Nat} {held : Bool}
theorem bytes_in2 {a : Option Addr} {n c : Nat} {d : DataW H} {p : List MemPlace} (h : DataW.Trod enc Try.prog w base (fun _ => true) held 34 (.slice a n c) d p) (hl : Light 34 d) : ∃ l : List UInt8, SlAt w a n c (u8vs l) ∧ (a = none → c = 0) := by
  obtain ⟨fuel, hf⟩ := h
  obtain ⟨A, n', c', l, e, hs, _, hz⟩ := open_bytes_sl' hf hl
  simp only [Value.cells, List.cons.injEq, and_true, Value.slice.injEq] at e
  obtain ⟨rfl, rfl, rfl⟩ := e
  exact ⟨l, hs, hz⟩
end

/-- A deed of chapter 11, as it lies in memory. -/
structure D11 where
  kind : Int
  num : Int
  data : Part
  keepA : Option Addr
  keepn : Nat
  keepc : Nat
  keep : List Int

structure D11.Ok (w : World) (d : D11) : Prop where
  kind : I64 d.kind
  num : I64 d.num
  data : d.data.At w
  keepS : SlAt w d.keepA d.keepn d.keepc (d.keep.map i64v)
  keepL : d.keepn * 8 ≤ 140737488355328
  keepI : ∀ n ∈ d.keep, I64 n

theorem D11.Ok.kept {w w' : World} {d : D11} (h : d.Ok w) (hk : Kept [] w w') : d.Ok w' :=
  ⟨h.kind, h.num, h.data.kept hk (by simp), h.keepS.kept hk (by simp), h.keepL, h.keepI⟩

/-- A slice of them. -/
structure D11s (w : World) (A : Option Addr) (n c : Nat) (l : List D11) : Prop where
  len : l.length = n
  le : n ≤ c
  max : c ≤ maxLen
  ok : ∀ d ∈ l, d.Ok w
  cells : 0 < n → ∃ b o, A = some ⟨b, o, none⟩ ∧ b < w.heap.size ∧ ∀ i d, l[i]? = some d → w.cell? ⟨b, o + i * 4, none⟩ = some (.int .i64 d.kind) ∧ w.cell? ⟨b, o + i * 4 + 1, none⟩ = some (.int .i64 d.num) ∧ w.cell? ⟨b, o + i * 4 + 2, none⟩ = some (d.data.val) ∧ w.cell? ⟨b, o + i * 4 + 3, none⟩ = some (.slice d.keepA d.keepn d.keepc)

theorem D11s.at_ {w : World} {A : Option Addr} {n c : Nat} {l : List D11} (h : D11s w A n c l) {k : Nat} (hk : k < n) : ∃ b o d, A = some ⟨b, o, none⟩ ∧ b < w.heap.size ∧ l[k]? = some d ∧ d.Ok w ∧ w.cell? ⟨b, o + k * 4, none⟩ = some (.int .i64 d.kind) ∧ w.cell? ⟨b, o + k * 4 + 1, none⟩ = some (.int .i64 d.num) ∧ w.cell? ⟨b, o + k * 4 + 2, none⟩ = some (d.data.val) ∧ w.cell? ⟨b, o + k * 4 + 3, none⟩ = some (.slice d.keepA d.keepn d.keepc) := by
  obtain ⟨b, o, hA, hb, hc⟩ := h.cells (by omega)
  have hd : l[k]? = some (l[k]'(by rw [h.len]; exact hk)) := List.getElem?_eq_getElem (by rw [h.len]; exact hk)
  exact ⟨b, o, _, hA, hb, hd, h.ok _ (List.mem_of_getElem? hd), hc k _ hd⟩

section
variable {H : Type} {enc : TypeId × Value → H} {w : World} {base : Nat} {held : Bool}

theorem cellsOf_deed11 : Try.prog.cellsOf 88 = 4 := by kernel_rfl

set_option maxRecDepth 100000 in
theorem open_deed11 {fuel : Nat} {cs : List Value} {x : DataW H × List MemPlace} (h : DataW.trod enc Try.prog w base (fun _ => true) held fuel 88 cs = some x) (hl : Light 88 x.1) : ∃ d : D11, cs = [.int .i64 d.kind, .int .i64 d.num, d.data.val, .slice d.keepA d.keepn d.keepc] ∧ d.Ok w := by
  obtain ⟨xs, n, _, hx, hlen, hxl, hf⟩ := DataW.trod_struct Try.underlying88 h
  rw [cellsOf_deed11] at hlen
  match cs, hlen with
  | [c0, c1, c2, c3], _ =>
    match xs, hxl with
    | [y0, y1, y2, y3], _ =>
      have f0 : DataW.trod enc Try.prog w base (fun _ => true) held n 3 [c0] = some y0 := by simpa [cellsOf_int, cellsOf_bytes, cellsOf_bytess, cellsOf_ints] using hf 0 _ rfl
      have f1 : DataW.trod enc Try.prog w base (fun _ => true) held n 3 [c1] = some y1 := by simpa [cellsOf_int, cellsOf_bytes, cellsOf_bytess, cellsOf_ints] using hf 1 _ rfl
      have f2 : DataW.trod enc Try.prog w base (fun _ => true) held n 34 [c2] = some y2 := by simpa [cellsOf_int, cellsOf_bytes, cellsOf_bytess, cellsOf_ints] using hf 2 _ rfl
      have f3 : DataW.trod enc Try.prog w base (fun _ => true) held n 23 [c3] = some y3 := by simpa [cellsOf_int, cellsOf_bytes, cellsOf_bytess, cellsOf_ints] using hf 3 _ rfl
      rw [hx] at hl
      obtain ⟨a0, e0, _, w0⟩ := DataW.trod_int Try.underlying3 f0
      obtain ⟨a1, e1, _, w1⟩ := DataW.trod_int Try.underlying3 f1
      obtain ⟨A2, m2, k2, b2, e2, s2, _, z2⟩ := open_bytes_sl' f2 (hl.field Try.underlying88 (j := 2) rfl rfl)
      obtain ⟨A3, m3, k3, b3, e3, s3, z3, u3⟩ := open_ints_sl f3 (hl.field Try.underlying88 (j := 3) rfl rfl)
      simp only [List.cons.injEq, and_true] at e0 e1 e2 e3
      subst e0 e1 e2 e3
      exact ⟨⟨a0, a1, ⟨A2, m2, k2, b2⟩, A3, m3, k3, b3⟩, rfl, ⟨wf_I64 w0, wf_I64 w1, ⟨s2, z2⟩, s3, Nat.le_trans u3 (by omega), z3⟩⟩

theorem open_deed11s {fuel : Nat} {cs : List Value} {x : DataW H × List MemPlace} (h : DataW.trod enc Try.prog w base (fun _ => true) held fuel 87 cs = some x) (hl : Light 87 x.1) : ∃ (A : Option Addr) (n c : Nat) (l : List D11), cs = [.slice A n c] ∧ D11s w A n c l := by
  rcases open_slice Try.underlying87 h with ⟨rfl, _⟩ | ⟨a, len, cap, m, n, D, Pl, rfl, hb, hle, hm, hmm, hx, hi⟩
  · exact ⟨none, 0, 0, [], rfl, ⟨rfl, Nat.le_refl _, by unfold maxLen; omega, by simp, fun h => by omega⟩⟩
  · simp only [if_true] at hmm
    rw [hx] at hl
    have hex : ∀ i, ∃ d : D11, i < len → (w.cells? base (a.add (i * 4)) 4 = some [.int .i64 d.kind, .int .i64 d.num, d.data.val, .slice d.keepA d.keepn d.keepc] ∧ d.Ok w) := by
      intro i
      by_cases hil : i < len
      · obtain ⟨cs', hc, ht⟩ := hi i (by omega)
        rw [cellsOf_deed11] at hc
        obtain ⟨d, hd, hok⟩ := open_deed11 ht (hl.elem Try.underlying87 (List.mem_map.2 ⟨i, List.mem_range.2 hil, rfl⟩))
        exact ⟨d, fun _ => ⟨by rw [hc, hd], hok⟩⟩
      · exact ⟨⟨0, 0, ⟨none, 0, 0, []⟩, none, 0, 0, []⟩, fun h => absurd h hil⟩
    obtain ⟨f, hf⟩ := Classical.axiomOfChoice hex
    refine ⟨some a, len, cap, (List.range len).map f, rfl, ⟨by simp, hle, hm, ?_, fun hn => ?_⟩⟩
    · intro d hd
      obtain ⟨i, hi', rfl⟩ := List.mem_map.1 hd
      exact (hf i (List.mem_range.1 hi')).2
    · have h00 := World.cells?_some (hf 0 hn).1
      have h0 := h00.2.2 0 (by omega)
      have e0 : a.add (0 * 4) = a := by simp [Addr.add]
      rw [e0] at h0
      obtain ⟨b, o, rfl, hb'⟩ := addr_of_cell h0
      refine ⟨b, o, rfl, hb', fun i d hd => ?_⟩
      rw [List.getElem?_map, Option.map_eq_some_iff] at hd
      obtain ⟨j, hj, rfl⟩ := hd
      obtain ⟨hjl, rfl⟩ := List.getElem?_eq_some_iff.1 hj
      simp only [List.length_range] at hjl
      simp only [List.getElem_range]
      obtain ⟨_, _, hat⟩ := World.cells?_some (hf i hjl).1
      rw [add_block] at hat
      refine ⟨?_, ?_, ?_, ?_⟩
      · have := hat 0 (by omega); rwa [add_block, Nat.add_zero] at this
      · have := hat 1 (by omega); rwa [add_block] at this
      · have := hat 2 (by omega); rwa [add_block] at this
      · have := hat 3 (by omega); rwa [add_block] at this

theorem deeds11_in {a : Option Addr} {n c : Nat} {d : DataW H} {p : List MemPlace} (h : DataW.Trod enc Try.prog w base (fun _ => true) held 87 (.slice a n c) d p) (hl : Light 87 d) : ∃ l, D11s w a n c l := by
  obtain ⟨fuel, hf⟩ := h
  obtain ⟨A, n', c', l, e, hs⟩ := open_deed11s hf hl
  simp only [Value.cells, List.cons.injEq, and_true, Value.slice.injEq] at e
  obtain ⟨rfl, rfl, rfl⟩ := e
  exact ⟨l, hs⟩
end

/-- A deed of chapter 13, as it lies in memory. -/
structure D13 where
  kind : Int
  num : Int
  data : Part
  lstA : Option Addr
  lstn : Nat
  lstc : Nat
  lst : List Part
  keepA : Option Addr
  keepn : Nat
  keepc : Nat
  keep : List Int

structure D13.Ok (w : World) (d : D13) : Prop where
  kind : I64 d.kind
  num : I64 d.num
  data : d.data.At w
  lst : BytessAt w d.lstA d.lstn d.lstc d.lst
  keepS : SlAt w d.keepA d.keepn d.keepc (d.keep.map i64v)
  keepL : d.keepn * 8 ≤ 140737488355328
  keepI : ∀ n ∈ d.keep, I64 n

theorem D13.Ok.kept {w w' : World} {d : D13} (h : d.Ok w) (hk : Kept [] w w') : d.Ok w' :=
  ⟨h.kind, h.num, h.data.kept hk (by simp), h.lst.new hk, h.keepS.kept hk (by simp), h.keepL, h.keepI⟩

/-- A slice of them. -/
structure D13s (w : World) (A : Option Addr) (n c : Nat) (l : List D13) : Prop where
  len : l.length = n
  le : n ≤ c
  max : c ≤ maxLen
  ok : ∀ d ∈ l, d.Ok w
  cells : 0 < n → ∃ b o, A = some ⟨b, o, none⟩ ∧ b < w.heap.size ∧ ∀ i d, l[i]? = some d → w.cell? ⟨b, o + i * 5, none⟩ = some (.int .i64 d.kind) ∧ w.cell? ⟨b, o + i * 5 + 1, none⟩ = some (.int .i64 d.num) ∧ w.cell? ⟨b, o + i * 5 + 2, none⟩ = some (d.data.val) ∧ w.cell? ⟨b, o + i * 5 + 3, none⟩ = some (.slice d.lstA d.lstn d.lstc) ∧ w.cell? ⟨b, o + i * 5 + 4, none⟩ = some (.slice d.keepA d.keepn d.keepc)

theorem D13s.at_ {w : World} {A : Option Addr} {n c : Nat} {l : List D13} (h : D13s w A n c l) {k : Nat} (hk : k < n) : ∃ b o d, A = some ⟨b, o, none⟩ ∧ b < w.heap.size ∧ l[k]? = some d ∧ d.Ok w ∧ w.cell? ⟨b, o + k * 5, none⟩ = some (.int .i64 d.kind) ∧ w.cell? ⟨b, o + k * 5 + 1, none⟩ = some (.int .i64 d.num) ∧ w.cell? ⟨b, o + k * 5 + 2, none⟩ = some (d.data.val) ∧ w.cell? ⟨b, o + k * 5 + 3, none⟩ = some (.slice d.lstA d.lstn d.lstc) ∧ w.cell? ⟨b, o + k * 5 + 4, none⟩ = some (.slice d.keepA d.keepn d.keepc) := by
  obtain ⟨b, o, hA, hb, hc⟩ := h.cells (by omega)
  have hd : l[k]? = some (l[k]'(by rw [h.len]; exact hk)) := List.getElem?_eq_getElem (by rw [h.len]; exact hk)
  exact ⟨b, o, _, hA, hb, hd, h.ok _ (List.mem_of_getElem? hd), hc k _ hd⟩

section
variable {H : Type} {enc : TypeId × Value → H} {w : World} {base : Nat} {held : Bool}

theorem cellsOf_deed13 : Try.prog.cellsOf 101 = 5 := by kernel_rfl

set_option maxRecDepth 100000 in
theorem open_deed13 {fuel : Nat} {cs : List Value} {x : DataW H × List MemPlace} (h : DataW.trod enc Try.prog w base (fun _ => true) held fuel 101 cs = some x) (hl : Light 101 x.1) : ∃ d : D13, cs = [.int .i64 d.kind, .int .i64 d.num, d.data.val, .slice d.lstA d.lstn d.lstc, .slice d.keepA d.keepn d.keepc] ∧ d.Ok w := by
  obtain ⟨xs, n, _, hx, hlen, hxl, hf⟩ := DataW.trod_struct Try.underlying101 h
  rw [cellsOf_deed13] at hlen
  match cs, hlen with
  | [c0, c1, c2, c3, c4], _ =>
    match xs, hxl with
    | [y0, y1, y2, y3, y4], _ =>
      have f0 : DataW.trod enc Try.prog w base (fun _ => true) held n 3 [c0] = some y0 := by simpa [cellsOf_int, cellsOf_bytes, cellsOf_bytess, cellsOf_ints] using hf 0 _ rfl
      have f1 : DataW.trod enc Try.prog w base (fun _ => true) held n 3 [c1] = some y1 := by simpa [cellsOf_int, cellsOf_bytes, cellsOf_bytess, cellsOf_ints] using hf 1 _ rfl
      have f2 : DataW.trod enc Try.prog w base (fun _ => true) held n 34 [c2] = some y2 := by simpa [cellsOf_int, cellsOf_bytes, cellsOf_bytess, cellsOf_ints] using hf 2 _ rfl
      have f3 : DataW.trod enc Try.prog w base (fun _ => true) held n 64 [c3] = some y3 := by simpa [cellsOf_int, cellsOf_bytes, cellsOf_bytess, cellsOf_ints] using hf 3 _ rfl
      have f4 : DataW.trod enc Try.prog w base (fun _ => true) held n 23 [c4] = some y4 := by simpa [cellsOf_int, cellsOf_bytes, cellsOf_bytess, cellsOf_ints] using hf 4 _ rfl
      rw [hx] at hl
      obtain ⟨a0, e0, _, w0⟩ := DataW.trod_int Try.underlying3 f0
      obtain ⟨a1, e1, _, w1⟩ := DataW.trod_int Try.underlying3 f1
      obtain ⟨A2, m2, k2, b2, e2, s2, _, z2⟩ := open_bytes_sl' f2 (hl.field Try.underlying101 (j := 2) rfl rfl)
      obtain ⟨A3, m3, k3, b3, e3, s3⟩ := open_bytess_sl f3 (hl.field Try.underlying101 (j := 3) rfl rfl)
      obtain ⟨A4, m4, k4, b4, e4, s4, z4, u4⟩ := open_ints_sl f4 (hl.field Try.underlying101 (j := 4) rfl rfl)
      simp only [List.cons.injEq, and_true] at e0 e1 e2 e3 e4
      subst e0 e1 e2 e3 e4
      exact ⟨⟨a0, a1, ⟨A2, m2, k2, b2⟩, A3, m3, k3, b3, A4, m4, k4, b4⟩, rfl, ⟨wf_I64 w0, wf_I64 w1, ⟨s2, z2⟩, s3, s4, Nat.le_trans u4 (by omega), z4⟩⟩

theorem open_deed13s {fuel : Nat} {cs : List Value} {x : DataW H × List MemPlace} (h : DataW.trod enc Try.prog w base (fun _ => true) held fuel 96 cs = some x) (hl : Light 96 x.1) : ∃ (A : Option Addr) (n c : Nat) (l : List D13), cs = [.slice A n c] ∧ D13s w A n c l := by
  rcases open_slice Try.underlying96 h with ⟨rfl, _⟩ | ⟨a, len, cap, m, n, D, Pl, rfl, hb, hle, hm, hmm, hx, hi⟩
  · exact ⟨none, 0, 0, [], rfl, ⟨rfl, Nat.le_refl _, by unfold maxLen; omega, by simp, fun h => by omega⟩⟩
  · simp only [if_true] at hmm
    rw [hx] at hl
    have hex : ∀ i, ∃ d : D13, i < len → (w.cells? base (a.add (i * 5)) 5 = some [.int .i64 d.kind, .int .i64 d.num, d.data.val, .slice d.lstA d.lstn d.lstc, .slice d.keepA d.keepn d.keepc] ∧ d.Ok w) := by
      intro i
      by_cases hil : i < len
      · obtain ⟨cs', hc, ht⟩ := hi i (by omega)
        rw [cellsOf_deed13] at hc
        obtain ⟨d, hd, hok⟩ := open_deed13 ht (hl.elem Try.underlying96 (List.mem_map.2 ⟨i, List.mem_range.2 hil, rfl⟩))
        exact ⟨d, fun _ => ⟨by rw [hc, hd], hok⟩⟩
      · exact ⟨⟨0, 0, ⟨none, 0, 0, []⟩, none, 0, 0, [], none, 0, 0, []⟩, fun h => absurd h hil⟩
    obtain ⟨f, hf⟩ := Classical.axiomOfChoice hex
    refine ⟨some a, len, cap, (List.range len).map f, rfl, ⟨by simp, hle, hm, ?_, fun hn => ?_⟩⟩
    · intro d hd
      obtain ⟨i, hi', rfl⟩ := List.mem_map.1 hd
      exact (hf i (List.mem_range.1 hi')).2
    · have h00 := World.cells?_some (hf 0 hn).1
      have h0 := h00.2.2 0 (by omega)
      have e0 : a.add (0 * 5) = a := by simp [Addr.add]
      rw [e0] at h0
      obtain ⟨b, o, rfl, hb'⟩ := addr_of_cell h0
      refine ⟨b, o, rfl, hb', fun i d hd => ?_⟩
      rw [List.getElem?_map, Option.map_eq_some_iff] at hd
      obtain ⟨j, hj, rfl⟩ := hd
      obtain ⟨hjl, rfl⟩ := List.getElem?_eq_some_iff.1 hj
      simp only [List.length_range] at hjl
      simp only [List.getElem_range]
      obtain ⟨_, _, hat⟩ := World.cells?_some (hf i hjl).1
      rw [add_block] at hat
      refine ⟨?_, ?_, ?_, ?_, ?_⟩
      · have := hat 0 (by omega); rwa [add_block, Nat.add_zero] at this
      · have := hat 1 (by omega); rwa [add_block] at this
      · have := hat 2 (by omega); rwa [add_block] at this
      · have := hat 3 (by omega); rwa [add_block] at this
      · have := hat 4 (by omega); rwa [add_block] at this

theorem deeds13_in {a : Option Addr} {n c : Nat} {d : DataW H} {p : List MemPlace} (h : DataW.Trod enc Try.prog w base (fun _ => true) held 96 (.slice a n c) d p) (hl : Light 96 d) : ∃ l, D13s w a n c l := by
  obtain ⟨fuel, hf⟩ := h
  obtain ⟨A, n', c', l, e, hs⟩ := open_deed13s hf hl
  simp only [Value.cells, List.cons.injEq, and_true, Value.slice.injEq] at e
  obtain ⟨rfl, rfl, rfl⟩ := e
  exact ⟨l, hs⟩
end
end Go.Proofs.Ytbnflbkaogpnbaa
