/- Texts in one: S3 S4 V3 V4a. -/
import Derived.Test.YtbnflbkaogpnbaaGreatPAE
import Derived.Laws.CopyRow
namespace Go.Proofs.YtbnflbkaogpnbaaGreat
theorem chunks_nil : chunks [] = [] := rfl
theorem chunks_cons {b : List UInt8} (h : b ≠ []) : chunks b = b.take 128 :: chunks (b.drop 128) := by
 have hl : 0 < b.length := List.length_pos_iff.2 h
 unfold chunks
 rw [show (b.length + 127) / 128 = ((b.drop 128).length + 127) / 128 + 1 by rw [List.length_drop]; omega, List.range_succ_eq_map, List.map_cons, List.map_map]
 refine congr (congrArg List.cons (by simp)) (List.map_congr_left fun i _ => ?_)
 simp only [Function.comp, List.drop_drop]
 rw [show 128 * (i + 1) = 128 + 128 * i by omega]
theorem length_chunks (b : List UInt8) : (chunks b).length = (b.length + 127) / 128 := by simp [chunks]
theorem chunks_le {b c : List UInt8} (h : c ∈ chunks b) : c.length ≤ 128 := by
 simp only [chunks, List.mem_map] at h
 obtain ⟨i, _, rfl⟩ := h
 rw [List.length_take]
 omega
theorem chunks_flat : ∀ (n : Nat) (b : List UInt8), b.length ≤ n → ∃ z, ((chunks b).map pad).flatten = b ++ z := by
 intro n
 induction n with
 | zero =>
  intro b hb
  have : b = [] := List.length_eq_zero_iff.1 (by omega)
  subst this
  exact ⟨[], rfl⟩
 | succ n ih =>
  intro b hb
  by_cases h : b = []
  ·subst h; exact ⟨[], rfl⟩
  ·rw [chunks_cons h, List.map_cons, List.flatten_cons]
   by_cases hl : b.length ≤ 128
   ·rw [List.drop_of_length_le hl, chunks_nil, List.take_of_length_le hl]
    exact ⟨List.replicate (128 - b.length) 0, by simp [pad]⟩
   ·have hp : 0 < b.length := List.length_pos_iff.2 h
    obtain ⟨z, hz⟩ := ih (b.drop 128) (by rw [List.length_drop]; omega)
    refine ⟨z, ?_⟩
    have hpad : pad (b.take 128) = b.take 128 := by
     unfold pad
     rw [List.length_take, Nat.min_eq_left (by omega)]
     simp
    rw [hz, hpad, ← List.append_assoc, List.take_append_drop]
theorem flatten_len : ∀ (s : List Blk), (∀ b ∈ s, b.length = 128) → s.flatten.length = 128 * s.length := by
 intro s
 induction s with
 | nil => intro _; rfl
 | cons b s ih =>
  intro h
  rw [List.flatten_cons, List.length_append, ih (fun c hc => h c (List.mem_cons_of_mem _ hc)), h b List.mem_cons_self, List.length_cons]
  omega
/-- A strip on a device: its records, up to its end. -/
structure SInv (s : St) (d : Dev) (l : List (List UInt8)) : Prop where
 wf : s.Wf d
 last : s.last = ((d.bytesAt s.first).take s.fin).drop (s.fin - s.fin % 128)
 small : Small l
 rows : (d.bytesAt s.first).take s.fin = recs l
theorem SInv.fin {s : St} {d : Dev} {l : List (List UInt8)} (h : SInv s d l) (hs : ∀ b ∈ d.secs, b.length = 128) : s.fin = (recs l).length := by
 have h1 := congrArg List.length h.rows
 have h2 := flatten_len (d.secs.drop s.first) (fun b hb => hs b (List.mem_of_mem_drop hb))
 have h3 := h.wf.there; have h4 := h.wf.fin
 rw [List.length_take, Dev.bytesAt, h2, List.length_drop] at h1
 omega
/-- What an Append that fits does. -/
theorem SInv.append {s : St} {d : Dev} {l : List (List UInt8)} (h : SInv s d l) (hd : d.Calm) {b : List UInt8} (hb : b.length ≤ 16384) (hr : s.fin + (b.length + 7) ≤ 128 * s.many) :
  ∃ s' d', s.append d b = (s', d', 0) ∧ SInv s' d' (l ++ [b]) ∧ d'.Calm ∧ s'.first = s.first ∧ s'.many = s.many ∧ s'.fin = s.fin + (b.length + 7) ∧ d'.secs.length = d.secs.length ∧ d'.works ≤ d.works + 1 + (b.length + 7) ∧
   (∀ i, i < s.first + s.fin / 128 ∨ s.first + s.many ≤ i → d'.secs[i]? = d.secs[i]?) ∧ (d'.bytesAt s.first).take s.fin = (d.bytesAt s.first).take s.fin ∧ ∀ q, d.Sure q → d'.Sure q := by
 have hlr : (recB b).length = b.length + 7 := length_recB b
 have hll := h.wf.last
 have hth := h.wf.there
 have hal : (s.last ++ recB b).length = s.fin % 128 + (b.length + 7) := by rw [List.length_append, hll, hlr]
 have hcl : ((chunks (s.last ++ recB b)).map pad).length = (s.fin % 128 + (b.length + 7) + 127) / 128 := by rw [List.length_map, length_chunks, hal]
 obtain ⟨d', e1, e2, e3, e4, e5⟩ := Dev.Calm.writes ((chunks (s.last ++ recB b)).map pad) hd (q := s.first + s.fin / 128) (by rw [hcl]; omega) (fun c hc => by
  obtain ⟨c', h1, rfl⟩ := List.mem_map.1 hc
  exact length_pad (chunks_le h1))
 obtain ⟨z, hz⟩ := chunks_flat _ (s.last ++ recB b) (Nat.le_refl _)
 obtain ⟨X, hX⟩ : ∃ X, ((d.secs.take (s.first + s.fin / 128)).drop s.first) = X := ⟨_, rfl⟩
 have hXs : ∀ c ∈ X, c.length = 128 := fun c hc => hd.size c (by rw [← hX] at hc; exact List.mem_of_mem_take (List.mem_of_mem_drop hc))
 have hXl : X.length = s.fin / 128 := by rw [← hX, List.length_drop, List.length_take]; omega
 have hXf : X.flatten.length = 128 * (s.fin / 128) := by rw [flatten_len X hXs, hXl]
 have hold : d.bytesAt s.first = X.flatten ++ (d.secs.drop (s.first + s.fin / 128)).flatten := by
  unfold Dev.bytesAt
  conv => lhs; rw [← List.take_append_drop (s.first + s.fin / 128) d.secs]
  rw [List.drop_append_of_le_length (by rw [List.length_take]; omega), hX, List.flatten_append]
 obtain ⟨Z, hZ⟩ : ∃ Z, d'.bytesAt s.first = X.flatten ++ (s.last ++ recB b) ++ Z := by
  refine ⟨z ++ (d.secs.drop (s.first + s.fin / 128 + ((chunks (s.last ++ recB b)).map pad).length)).flatten, ?_⟩
  unfold Dev.bytesAt
  rw [e3, List.append_assoc, List.drop_append_of_le_length (by rw [List.length_take]; omega), hX, List.flatten_append, List.flatten_append, hz]
  simp [List.append_assoc]
 have hlast : s.last = (d.secs.drop (s.first + s.fin / 128)).flatten.take (s.fin % 128) := by
  have := h.last
  rw [hold, List.take_append, hXf, List.take_of_length_le (by rw [hXf]; omega), show s.fin - s.fin % 128 = X.flatten.length by rw [hXf]; omega, List.drop_left] at this
  rw [this]
  congr 1
  omega
 have hnow : X.flatten ++ s.last = (d.bytesAt s.first).take s.fin := by
  rw [hold, List.take_append, hXf, List.take_of_length_le (by rw [hXf]; omega), hlast]
  congr 2
  omega
 have htake : (d'.bytesAt s.first).take (s.fin + (b.length + 7)) = recs (l ++ [b]) := by
  have hlen : s.fin + (b.length + 7) = (X.flatten ++ (s.last ++ recB b)).length := by rw [List.length_append, hal, hXf]; omega
  rw [hZ, hlen, List.take_left, ← List.append_assoc, hnow, h.rows, recs_append, recs_cons, recs_nil, List.append_nil]
 refine ⟨{ s with fin := s.fin + (b.length + 7), last := (s.last ++ recB b).drop ((s.last ++ recB b).length - (s.last ++ recB b).length % 128) }, d', ?_, ⟨⟨h.wf.one, ?_, ?_, ?_⟩, ?_, h.small.append (Small.one hb), htake⟩, e2, rfl, rfl, rfl, ?_, ?_, ?_, ?_, e5⟩
 ·unfold St.append
  rw [if_neg (by omega), if_neg (by omega)]
  simp only [e1, if_true]
 ·rw [e3]; simp; omega
 ·exact hr
 ·rw [List.length_drop, hal]
  show _ = (s.fin + (b.length + 7)) % 128
  omega
 ·show (s.last ++ recB b).drop _ = ((d'.bytesAt s.first).take (s.fin + (b.length + 7))).drop (s.fin + (b.length + 7) - (s.fin + (b.length + 7)) % 128)
  have hlen : s.fin + (b.length + 7) = (X.flatten ++ (s.last ++ recB b)).length := by rw [List.length_append, hal, hXf]; omega
  have e6 : (d'.bytesAt s.first).take (s.fin + (b.length + 7)) = X.flatten ++ (s.last ++ recB b) := by rw [hZ, hlen, List.take_left]
  rw [e6, show s.fin + (b.length + 7) - (s.fin + (b.length + 7)) % 128 = X.flatten.length + ((s.last ++ recB b).length - (s.last ++ recB b).length % 128) by rw [hXf, hal]; omega, ← List.drop_drop, List.drop_left]
 ·rw [e3]
  simp only [List.length_append, List.length_take, List.length_drop, hcl]
  omega
 ·rw [e4, hcl]; omega
 ·intro i hi
  rw [e3]
  rcases hi with hi | hi
  ·rw [List.append_assoc, List.getElem?_append_left (by rw [List.length_take]; omega), List.getElem?_take, if_pos hi]
  ·rw [List.getElem?_append_right (by rw [List.length_append, List.length_take, hcl]; omega), List.getElem?_drop]
   congr 1
   rw [List.length_append, List.length_take, hcl]
   omega
 ·rw [hZ, List.append_assoc, List.append_assoc, ← List.append_assoc, hnow]
  have : ((d.bytesAt s.first).take s.fin).length = s.fin := by
   rw [← hnow, List.length_append, hXf, hll]; omega
  rw [List.take_append_of_le_length (by omega), List.take_of_length_le (by omega)]
end Go.Proofs.YtbnflbkaogpnbaaGreat
namespace Go.Proofs.YtbnflbkaogpnbaaGreat
theorem flatten_at : ∀ (s : List Blk), (∀ b ∈ s, b.length = 128) → ∀ p, s.flatten[p]? = (s[p / 128]?.getD [])[p % 128]? := by
 intro s
 induction s with
 | nil => intro _ p; simp
 | cons b s ih =>
  intro h p
  have hb := h b List.mem_cons_self
  rw [List.flatten_cons]
  by_cases hp : p < 128
  ·rw [List.getElem?_append_left (by omega), show p / 128 = 0 by omega, show p % 128 = p by omega]
   rfl
  ·rw [List.getElem?_append_right (by omega), ih (fun c hc => h c (List.mem_cons_of_mem _ hc)), hb, show p / 128 = (p - 128) / 128 + 1 by omega, List.getElem?_cons_succ, show (p - 128) % 128 = p % 128 by omega]
/-- Sectors out of two devices that have the same up to there. -/
theorem mixed {s0 s1 s2 : List Blk} (h0 : ∀ b ∈ s0, b.length = 128) (h1 : ∀ b ∈ s1, b.length = 128) (h2 : ∀ b ∈ s2, b.length = 128) (hm : ∀ i : Nat, s2[i]? = s1[i]? ∨ s2[i]? = s0[i]?) {e : Nat} (h : s1.flatten.take e = s0.flatten.take e) :
  s2.flatten.take e = s0.flatten.take e := by
 apply List.ext_getElem?
 intro p
 rw [List.getElem?_take, List.getElem?_take]
 by_cases hp : p < e
 ·rw [if_pos hp, if_pos hp]
  have hq := congrArg (fun l => l[p]?) h
  simp only [List.getElem?_take, hp, if_true] at hq
  rw [flatten_at s2 h2]
  rcases hm (p / 128) with h3 | h3
  ·rw [h3, ← flatten_at s1 h1, hq]
  ·rw [h3, ← flatten_at s0 h0]
 ·rw [if_neg hp, if_neg hp]
end Go.Proofs.YtbnflbkaogpnbaaGreat
namespace Go.Proofs.YtbnflbkaogpnbaaGreat
open Go.RowKit
/-- In w, at block z, is the strip s, on the device at a; its blocks are among sp. -/
structure StAt (w : World) (z a : Nat) (sp : List Nat) (s : St) : Prop where
 head : ∃ A c, w.heap[z]? = some (.cells #[.pointer (some ⟨a, 0, none⟩), .int .i64 s.first, .int .i64 s.many, .int .i64 s.fin, .slice A s.last.length c] 76 (0, 0)) ∧ SlAt w A s.last.length c (u8vs s.last) ∧ (A = none → c = 0) ∧ ∀ p, A = some p → p.block ∈ sp ∧ p.block ≠ z
 zin : z ∈ sp
 lt : ∀ j ∈ sp, j < w.heap.size
theorem StAt.kept {w w' : World} {z a : Nat} {sp : List Nat} {s : St} {F : List Nat} (h : StAt w z a sp s) (hk : Kept F w w') (hF : ∀ j ∈ sp, j ∉ F) : StAt w' z a sp s := by
 obtain ⟨A, c, h1, h2, h3, h4⟩ := h.head
 exact ⟨⟨A, c, (hk.block z (h.lt z h.zin) (hF z h.zin)).trans h1, h2.kept hk (fun p e => hF _ (h4 p e).1), h3, h4⟩, h.zin, fun j hj => Nat.lt_of_lt_of_le (h.lt j hj) hk.size⟩
theorem StAt.cells {w : World} {z a : Nat} {sp : List Nat} {s : St} (h : StAt w z a sp s) :
  w.cell? ⟨z, 0, none⟩ = some (.pointer (some ⟨a, 0, none⟩)) ∧ w.cell? ⟨z, 1, none⟩ = some (.int .i64 s.first) ∧ w.cell? ⟨z, 2, none⟩ = some (.int .i64 s.many) ∧ w.cell? ⟨z, 3, none⟩ = some (.int .i64 s.fin) ∧ ∀ i, w.frozen? ⟨z, i, none⟩ = false := by
 obtain ⟨A, c, h1, _⟩ := h.head
 exact ⟨blk_cell h1 0, blk_cell h1 1, blk_cell h1 2, blk_cell h1 3, fun i => blk_frozen h1 i⟩
def stripSize (n : Int) : Int := if n < 0 ∨ 16384 < n then 0 else n + 7
set_option maxHeartbeats 400000 in
theorem stripSize_any (n : Int) (w : World) : Calls Tryz.prog 21 #[.int .i64 n] w fun e w' => e = .returned (.int .i64 (stripSize n)) ∧ w = w' := by
 unfold stripSize
 by_cases h1 : n < 0
 ·rw [if_pos (.inl h1)]
  go_enter Tryz.func21, Tryz.ntmps21
  go_wp2
  go_ret
  exact ⟨rfl, rfl⟩
 ·by_cases h2 : 16384 < n
  ·rw [if_pos (.inr h2)]
   go_enter Tryz.func21, Tryz.ntmps21
   go_wp2
   go_ret
   exact ⟨rfl, rfl⟩
  ·rw [if_neg (by omega)]
   go_enter Tryz.func21, Tryz.ntmps21
   go_wp2
   go_ret
   exact ⟨rfl, rfl⟩
set_option maxHeartbeats 400000 in
theorem stripEnd_any {w : World} {z a : Nat} {sp : List Nat} {s : St} (h : StAt w z a sp s) : Calls Tryz.prog 20 #[.pointer (some ⟨z, 0, none⟩)] w fun e w' => e = .returned (.int .i64 s.fin) ∧ w = w' := by
 obtain ⟨c0, c1, c2, c3, cf⟩ := h.cells
 clear h
 go_enter Tryz.func20, Tryz.ntmps20
 go_wp2
 go_ret
 exact ⟨rfl, rfl⟩
/-- What Left does. -/
def LeftPost (w : World) (n : Int) (e : Ending) (w' : World) : Prop := e = .returned (.int .i64 n) ∧ ∃ q, w' = w.drewN q
set_option maxHeartbeats 400000 in
theorem stripLeft_any {w : World} {z a : Nat} {sp : List Nat} {s : St} (h : StAt w z a sp s) (hm : s.many ≤ 10000) (hf : s.fin ≤ 128 * s.many) : Calls Tryz.prog 24 #[.pointer (some ⟨z, 0, none⟩)] w (LeftPost w (128 * s.many - s.fin)) := by
 obtain ⟨c0, c1, c2, c3, cf⟩ := h.cells
 clear h
 go_enter Tryz.func24, Tryz.ntmps24
 go_wp2
 go_quiet (fail)
 go_wp2
 go_ret
 exact ⟨rfl, nq, rfl⟩
end Go.Proofs.YtbnflbkaogpnbaaGreat
namespace Go.Proofs.YtbnflbkaogpnbaaGreat
open Go.RowKit Go.Shelf
theorem results_cell_int {P : Program} {fn : Func} {p : Tmp} {ty : TypeId} {k : IntKind} (h : fn.results = #[.cell p ty]) (tmps : Array Value) (w : World) (b : Nat) (v : Value)
  (hp : tmps.getD p undef = .pointer (some ⟨b, 0, none⟩)) (hc : w.cell? ⟨b, 0, none⟩ = some v) (hu : P.underlying ty = some (.int k)) : (results fn tmps).run P w = .ok v w := by
 have hp' : tmps[p]?.getD undef = .pointer (some ⟨b, 0, none⟩) := by simpa using hp
 have hg : ∀ w, (isAgg ty).run P w = .ok false w := fun w => by simp [isAgg, Sem.run_bind, run_underlying hu, Result.andThen]
 simp [results, h, hp', asAddr, loadVar, Sem.run_bind, hg, Result.andThen, hc]
/-- What an Append does. -/
def AppPost (w : World) (z a : Nat) (fp sp : List Nat) (r : St × Dev × Int) (e : Ending) (w' : World) : Prop :=
 e = .returned (.int .i64 r.2.2) ∧ ∃ fp' sp', Dv w' a fp' r.2.1 ∧ StAt w' z a sp' r.1 ∧ Kept (fp ++ sp) w w' ∧ (∀ j ∈ fp', j ∈ fp ∨ w.heap.size ≤ j) ∧ (∀ j ∈ sp', j ∈ sp ∨ w.heap.size ≤ j) ∧ ∀ j ∈ sp', j ∉ fp'
theorem app_out {w W' : World} {z a : Nat} {fp sp fp' sp' : List Nat} {s' : St} {d' : Dev} {n : Int} (hD : Dv W' a fp' d') (hS : StAt W' z a sp' s') (hk : Kept (fp ++ sp) w W') (hf : ∀ j ∈ fp', j ∈ fp ∨ w.heap.size ≤ j) (hp : ∀ j ∈ sp', j ∈ sp ∨ w.heap.size ≤ j)
  (hn : ∀ j ∈ sp', j ∉ fp') {rb : Nat} (hrb : w.heap.size ≤ rb) (hrf : rb ∉ fp') (hrs : rb ∉ sp') (v : Value) : AppPost w z a fp sp (s', d', n) (.returned (.int .i64 n)) (W'.setCell ⟨rb, 0, none⟩ v) := by
 have hk2 : Kept [rb] W' (W'.setCell ⟨rb, 0, none⟩ v) := Kept.setCell (by simp) _
 exact ⟨rfl, fp', sp', hD.kept hk2 (fun j hj hm => hrf (by simp at hm; exact hm ▸ hj)), hS.kept hk2 (fun j hj hm => hrs (by simp at hm; exact hm ▸ hj)), hk.trans' hk2 (fun i hi => by simp at hi; subst hi; exact .inr hrb), hf, hp, hn⟩
/-- The frame of an Append: its device, its strip, its two boxes, what is to be appended. -/
structure ApAt (w W : World) (z a : Nat) (AL : Option Addr) (cL : Nat) (fp : List Nat) (s : St) (d : Dev) (A : Option Addr) (n c : Nat) (b : List UInt8) : Prop where
 dv : Dv W a fp d
 zl : W.heap[z]? = some (.cells #[.pointer (some ⟨a, 0, none⟩), .int .i64 s.first, .int .i64 s.many, .int .i64 s.fin, .slice AL s.last.length cL] 76 (0, 0))
 sl : SlAt W AL s.last.length cL (u8vs s.last)
 bx : W.heap[w.heap.size]? = some (.cells #[.pointer (some ⟨z, 0, none⟩)] 31 (0, 0))
 rt : W.heap[w.heap.size + 1]? = some (.cells #[.int .i64 0] 23 (0, 0))
 bs : SlAt W A n c (u8vs b)
 kept : Kept [] w W
theorem ApAt.next {w W W' : World} {z a : Nat} {AL : Option Addr} {cL : Nat} {fp : List Nat} {s : St} {d : Dev} {A : Option Addr} {n c : Nat} {b : List UInt8} (h : ApAt w W z a AL cL fp s d A n c b) (hk : Kept [] W W') : ApAt w W' z a AL cL fp s d A n c b :=
 ⟨h.dv.new_kept hk, (hk.block z (World.lt_of_heap h.zl) (by simp)).trans h.zl, h.sl.kept hk (by simp), (hk.block _ (World.lt_of_heap h.bx) (by simp)).trans h.bx, (hk.block _ (World.lt_of_heap h.rt) (by simp)).trans h.rt, h.bs.kept hk (by simp), h.kept.trans hk⟩
/-- The cells that the frame's loads read. -/
def ApS (w : World) (z a : Nat) (AL : Option Addr) (cL : Nat) (s : St) (W : World) : Prop :=
 W.cell? ⟨w.heap.size, 0, none⟩ = some (.pointer (some ⟨z, 0, none⟩)) ∧ W.cell? ⟨z, 0, none⟩ = some (.pointer (some ⟨a, 0, none⟩)) ∧ W.cell? ⟨z, 1, none⟩ = some (.int .i64 s.first) ∧ W.cell? ⟨z, 2, none⟩ = some (.int .i64 s.many) ∧
  W.cell? ⟨z, 3, none⟩ = some (.int .i64 s.fin) ∧ W.cell? ⟨z, 4, none⟩ = some (.slice AL s.last.length cL)
theorem ApAt.S {w W : World} {z a : Nat} {AL : Option Addr} {cL : Nat} {fp : List Nat} {s : St} {d : Dev} {A : Option Addr} {n c : Nat} {b : List UInt8} (h : ApAt w W z a AL cL fp s d A n c b) : ApS w z a AL cL s W :=
 ⟨blk_cell h.bx 0, blk_cell h.zl 0, blk_cell h.zl 1, blk_cell h.zl 2, blk_cell h.zl 3, blk_cell h.zl 4⟩
/-- Behind the sum of all: the row of what was there and the record, and the box of the sector's number. -/
def ApMid (w : World) (z a : Nat) (AL : Option Addr) (cL : Nat) (fp : List Nat) (s : St) (d : Dev) (A : Option Addr) (n c : Nat) (b : List UInt8) (v5 v6 : Value) (wx : World) : Prop :=
 ∃ bC oC cC at_, v5 = .slice (some ⟨bC, oC, none⟩) (s.last.length + (n + 7)) cC ∧ v6 = .pointer (some ⟨at_, 0, none⟩) ∧ ApAt w wx z a AL cL fp s d A n c b ∧ wx.heap[at_]? = some (.cells #[.int .i64 (s.fin / 128 : Nat)] 3 (0, 0)) ∧
  w.heap.size + 2 ≤ at_ ∧ SlAt wx (some ⟨bC, oC, none⟩) (s.last.length + (n + 7)) cC (u8vs (s.last ++ recB b)) ∧ w.heap.size + 2 ≤ bC ∧ bC ≠ at_
theorem writes_snoc : ∀ (cs : List Blk) (d : Dev) (q : Int) (k : Nat) (c : Blk) (d' : Dev), cs[k]? = some c → d.writes q (cs.take k) = (d', 0) → d.writes q (cs.take (k + 1)) = d'.write (q + k) c := by
 intro cs
 induction cs with
 | nil => intro d q k c d' h _; simp at h
 | cons x cs ih =>
  intro d q k c d' h hw
  cases k with
  | zero =>
   simp only [List.getElem?_cons_zero, Option.some.injEq] at h
   subst h
   simp only [List.take_zero, Dev.writes, Prod.mk.injEq, and_true] at hw
   subst hw
   simp only [Nat.zero_add, List.take_succ_cons, List.take_zero, Dev.writes, Int.natCast_zero, Int.add_zero]
   split
   ·rename_i h0
    rw [← h0]
   ·rfl
  | succ k =>
   simp only [List.getElem?_cons_succ] at h
   simp only [List.take_succ_cons, Dev.writes] at hw ⊢
   split at hw
   ·rename_i h0
    rw [if_pos h0, ih _ _ _ _ _ h hw]
    congr 1
    push_cast
    omega
   ·rename_i h0
    rw [hw] at h0
    exact absurd rfl h0
theorem writes_stop : ∀ (cs : List Blk) (d : Dev) (q : Int) (k : Nat) (r : Dev × Int), d.writes q (cs.take k) = r → r.2 ≠ 0 → d.writes q cs = r := by
 intro cs
 induction cs with
 | nil => intro d q k r h _; simpa using h
 | cons x cs ih =>
  intro d q k r h hr
  cases k with
  | zero =>
   simp only [List.take_zero, Dev.writes] at h
   rw [← h] at hr
   exact absurd rfl hr
  | succ k =>
   simp only [List.take_succ_cons, Dev.writes] at h ⊢
   split at h
   ·rename_i h0
    rw [if_pos h0]
    exact ih _ _ _ _ h hr
   ·rename_i h0
    rw [if_neg h0]
    exact h
theorem row_nil' {w : World} {base : Nat} {t : TypeId} {A : Option Addr} {n c : Nat} {xs : List Value} (h : w.ownsRow base t 1 (.slice A n c) n xs) (e : A = none) : c = 0 := by
 subst e
 rcases h.2 with ⟨e, _⟩ | ⟨g, cap, cur, e, _⟩
 ·injection e
 ·cases e
theorem SlAt.lt' {w : World} {A : Option Addr} {n c : Nat} {xs : List Value} (h : SlAt w A n c xs) (hn : 0 < n) {p : Addr} (e : A = some p) : p.block < w.heap.size := by
 obtain ⟨b, o, e2, hb, _⟩ := h.cells hn
 rw [e] at e2
 cases e2
 exact hb
/-- Two rows put together. -/
theorem concat_two (w : World) (g : Nat) {t : TypeId} {fz : Nat × Nat} (A1 A2 : Option Addr) (n1 c1 n2 c2 : Nat) (xs ys : List UInt8) (hg : w.heap[g]? = some (.cells #[.slice A1 n1 c1, .slice A2 n2 c2] t fz)) (h1 : SlAt w A1 n1 c1 (u8vs xs)) (h10 : A1 = none → c1 = 0)
  (h2 : SlAt w A2 n2 c2 (u8vs ys)) (h20 : A2 = none → c2 = 0) (hpos : 0 < n1 + n2) (hle : n1 + n2 ≤ 100000000) : Calls Tryz.prog 38 #[.slice (some ⟨g, 0, none⟩) 2 2] w (ClonePost w 5 (n1 + n2) (u8vs (xs ++ ys))) := by
 have h := concat_any w g 0 2 2 [⟨A1, n1, c1, xs⟩, ⟨A2, n2, c2, ys⟩] rfl (World.lt_of_heap hg) (by omega) (by omega) (fun i p hi => by
   have hl := (List.getElem?_eq_some_iff.1 hi).1
   simp only [List.length_cons, List.length_nil] at hl
   have : i = 0 ∨ i = 1 := by omega
   rcases this with rfl | rfl
   ·cases hi; rw [blk_cell hg]; rfl
   ·cases hi; rw [blk_cell hg]; rfl) (fun p hp => by
   simp only [List.mem_cons, List.not_mem_nil, or_false] at hp
   rcases hp with rfl | rfl
   ·exact ⟨h1, h10⟩
   ·exact ⟨h2, h20⟩) (by simp only [total]; omega) (by simp only [total]; omega)
 have e : total [⟨A1, n1, c1, xs⟩, ⟨A2, n2, c2, ys⟩] = n1 + n2 := by simp [total]
 have e2 : allB [⟨A1, n1, c1, xs⟩, ⟨A2, n2, c2, ys⟩] = xs ++ ys := by simp [allB]
 rw [e, e2] at h
 exact h
/-- What of an Append's frame lay there ahead of it. -/
structure ApOld (w : World) (z : Nat) (AL : Option Addr) (fp : List Nat) (A : Option Addr) (n : Nat) : Prop where
 z : z < w.heap.size
 fp : ∀ j ∈ fp, j < w.heap.size
 al : ∀ p, AL = some p → p.block < w.heap.size
 a : ∀ p, A = some p → 0 < n → p.block < w.heap.size
theorem ApAt.put {w W : World} {z a : Nat} {AL : Option Addr} {cL : Nat} {fp : List Nat} {s : St} {d : Dev} {A : Option Addr} {n c : Nat} {b : List UInt8} (h : ApAt w W z a AL cL fp s d A n c b) (ho : ApOld w z AL fp A n) {q : Nat} (hq : w.heap.size + 2 ≤ q) (v : Value) :
  ApAt w (W.setCell ⟨q, 0, none⟩ v) z a AL cL fp s d A n c b := by
 have hk : Kept [q] W (W.setCell ⟨q, 0, none⟩ v) := Kept.setCell (by simp) _
 have hz := ho.z
 exact ⟨h.dv.kept hk (fun j hj hm => by simp at hm; have := ho.fp j hj; omega), (hk.block z (World.lt_of_heap h.zl) (by simp; omega)).trans h.zl, h.sl.kept hk (fun p e hm => by simp at hm; have := ho.al p e; omega), (hk.block _ (World.lt_of_heap h.bx) (by simp; omega)).trans h.bx,
  (hk.block _ (World.lt_of_heap h.rt) (by simp; omega)).trans h.rt, h.bs.keptP hk (fun p e hn hm => by simp at hm; have := ho.a p e hn; omega), h.kept.trans' hk (by simp; omega)⟩
/-- What is fixed while an Append writes. -/
structure ApCtx (w W8 : World) (z : Nat) (AL : Option Addr) (fp : List Nat) (at_ bC : Nat) : Prop where
 size : w.heap.size + 2 ≤ W8.heap.size
 hz : z < w.heap.size
 hfp : ∀ j ∈ fp, j < w.heap.size
 hzfp : z ∉ fp
 hal : ∀ p, AL = some p → p.block < w.heap.size ∧ p.block ∉ fp ∧ p.block ≠ z
 at0 : w.heap.size + 2 ≤ at_
 at1 : at_ < W8.heap.size
 b0 : w.heap.size + 2 ≤ bC
 b1 : bC < W8.heap.size
 ne : bC ≠ at_
/-- Behind some sectors' writes. -/
structure ApLoop (w W8 : World) (z a : Nat) (AL : Option Addr) (cL : Nat) (fp : List Nat) (s : St) (d : Dev) (bC oC cC L at_ : Nat) (all : List UInt8) (k : Nat) (d' : Dev) (fp' : List Nat) (r v : Int) (X : World) : Prop where
 dv : Dv X a fp' d'
 new : ∀ j ∈ fp', j ∈ fp ∨ W8.heap.size + 2 ≤ j
 zl : X.heap[z]? = some (.cells #[.pointer (some ⟨a, 0, none⟩), .int .i64 s.first, .int .i64 s.many, .int .i64 s.fin, .slice AL s.last.length cL] 76 (0, 0))
 sl : SlAt X AL s.last.length cL (u8vs s.last)
 bx : X.heap[w.heap.size]? = some (.cells #[.pointer (some ⟨z, 0, none⟩)] 31 (0, 0))
 rt : X.heap[w.heap.size + 1]? = some (.cells #[.int .i64 r] 23 (0, 0))
 at_ : X.heap[at_]? = some (.cells #[.int .i64 v] 3 (0, 0))
 sb : SlAt X (some ⟨bC, oC, none⟩) L cC (u8vs all)
 kept : Kept fp w X
 works : d'.works ≤ d.works + k
section
variable {w W8 : World} {z a : Nat} {AL : Option Addr} {cL : Nat} {fp : List Nat} {s : St} {d : Dev} {bC oC cC L at_ : Nat} {all : List UInt8} {k : Nat} {d' : Dev} {fp' : List Nat} {r v : Int} {X Y : World}
theorem ApLoop.next (hc : ApCtx w W8 z AL fp at_ bC) (h : ApLoop w W8 z a AL cL fp s d bC oC cC L at_ all k d' fp' r v X) {F : List Nat} (hk : Kept F X Y) (hF : ∀ j ∈ F, j = W8.heap.size ∨ j = W8.heap.size + 1) : ApLoop w W8 z a AL cL fp s d bC oC cC L at_ all k d' fp' r v Y := by
 have h1 := hc.size; have h2 := hc.hz; have h3 := hc.at1; have h4 := hc.b1
 have key : ∀ j, j < W8.heap.size → j ∉ F := fun j hj hm => by rcases hF j hm with e | e <;> omega
 refine ⟨h.dv.kept hk (fun j hj hm => ?_), h.new, (hk.block z (World.lt_of_heap h.zl) (key z (by omega))).trans h.zl, h.sl.kept hk (fun p e => key _ (by have := (hc.hal p e).1; omega)), (hk.block _ (World.lt_of_heap h.bx) (key _ (by omega))).trans h.bx,
  (hk.block _ (World.lt_of_heap h.rt) (key _ (by omega))).trans h.rt, (hk.block _ (World.lt_of_heap h.at_) (key _ h3)).trans h.at_, h.sb.kept hk (fun p e => by cases e; exact key _ h4), h.kept.trans' hk (fun j hj => .inr ?_), h.works⟩
 ·rcases h.new j hj with e | e
  ·exact key j (by have := hc.hfp j e; omega) hm
  ·rcases hF j hm with e2 | e2 <;> omega
 ·rcases hF j hj with e | e <;> omega
/-- A write: the device's blocks turn. -/
theorem ApLoop.wrote (hc : ApCtx w W8 z AL fp at_ bC) (h : ApLoop w W8 z a AL cL fp s d bC oC cC L at_ all k d' fp' r v X) {d2 : Dev} {f2 : List Nat} (hD : Dv Y a f2 d2) (hk : Kept fp' X Y) (hn : ∀ j ∈ f2, j ∈ fp' ∨ X.heap.size ≤ j) (hX : W8.heap.size + 2 ≤ X.heap.size) (hw : d2.works ≤ d'.works + 1) :
    ApLoop w W8 z a AL cL fp s d bC oC cC L at_ all (k + 1) d2 f2 r v Y := by
  have h1 := hc.size; have h2 := hc.hz; have h3 := hc.at1; have h4 := hc.b1; have h5 := hc.at0; have h6 := hc.b0
  have key : ∀ j, j < W8.heap.size → j ∉ fp → j ∉ fp' := fun j hj hn hm => by rcases h.new j hm with e | e
                                                                              · exact hn e
                                                                              · omega
  have old : ∀ j, w.heap.size ≤ j → j ∉ fp := fun j hj hm => by have := hc.hfp j hm; omega
  refine ⟨hD, fun j hj => ?_, (hk.block z (World.lt_of_heap h.zl) (key z (by omega) hc.hzfp)).trans h.zl, h.sl.kept hk (fun p e => key _ (by have := (hc.hal p e).1; omega) (hc.hal p e).2.1), (hk.block _ (World.lt_of_heap h.bx) (key _ (by omega) (old _ (by omega)))).trans h.bx,
    (hk.block _ (World.lt_of_heap h.rt) (key _ (by omega) (old _ (by omega)))).trans h.rt, (hk.block _ (World.lt_of_heap h.at_) (key _ h3 (old _ (by omega)))).trans h.at_, h.sb.kept hk (fun p e => by cases e; exact key _ h4 (old _ (by show w.heap.size ≤ bC; omega))), h.kept.trans' hk (fun j hj => ?_), by have := h.works; omega⟩
  · rcases hn j hj with e | e
    · exact h.new j e
    · exact .inr (by omega)
  · rcases h.new j hj with e | e
    · exact .inl e
    · exact .inr (by omega)
/-- The sector's number, and the answer, are written. -/
theorem ApLoop.putAt (hc : ApCtx w W8 z AL fp at_ bC) (h : ApLoop w W8 z a AL cL fp s d bC oC cC L at_ all k d' fp' r v X) (v2 : Int) : ApLoop w W8 z a AL cL fp s d bC oC cC L at_ all k d' fp' r v2 (X.setCell ⟨at_, 0, none⟩ (.int .i64 v2)) := by
 have h1 := hc.size; have h2 := hc.hz; have h3 := hc.at1; have h4 := hc.b1; have h5 := hc.at0; have h6 := hc.b0; have h7 := hc.ne
 have hk : Kept [at_] X (X.setCell ⟨at_, 0, none⟩ (.int .i64 v2)) := Kept.setCell (by simp) _
 refine ⟨h.dv.kept hk (fun j hj hm => ?_), h.new, (hk.block z (World.lt_of_heap h.zl) (by simp; omega)).trans h.zl, h.sl.kept hk (fun p e hm => by simp at hm; have := (hc.hal p e).1; omega), (hk.block _ (World.lt_of_heap h.bx) (by simp; omega)).trans h.bx,
  (hk.block _ (World.lt_of_heap h.rt) (by simp; omega)).trans h.rt, heap_set h.at_ 0 _, h.sb.kept hk (fun p e => by cases e; simpa using h7), h.kept.trans' hk (by simp; omega), h.works⟩
 simp at hm
 subst hm
 rcases h.new _ hj with e | e
 ·have := hc.hfp _ e; omega
 ·omega
theorem ApLoop.putRt (hc : ApCtx w W8 z AL fp at_ bC) (h : ApLoop w W8 z a AL cL fp s d bC oC cC L at_ all k d' fp' r v X) (r2 : Int) : ApLoop w W8 z a AL cL fp s d bC oC cC L at_ all k d' fp' r2 v (X.setCell ⟨w.heap.size + 1, 0, none⟩ (.int .i64 r2)) := by
 have h1 := hc.size; have h2 := hc.hz; have h3 := hc.at1; have h4 := hc.b1; have h5 := hc.at0; have h6 := hc.b0; have h7 := hc.ne
 have hk : Kept [w.heap.size + 1] X (X.setCell ⟨w.heap.size + 1, 0, none⟩ (.int .i64 r2)) := Kept.setCell (by simp) _
 refine ⟨h.dv.kept hk (fun j hj hm => ?_), h.new, (hk.block z (World.lt_of_heap h.zl) (by simp; omega)).trans h.zl, h.sl.kept hk (fun p e hm => by simp at hm; have := (hc.hal p e).1; omega), (hk.block _ (World.lt_of_heap h.bx) (by simp)).trans h.bx,
  heap_set h.rt 0 _, (hk.block _ (World.lt_of_heap h.at_) (by simp; omega)).trans h.at_, h.sb.kept hk (fun p e => by cases e; simp; omega), h.kept.trans' hk (by simp), h.works⟩
 simp at hm
 subst hm
 rcases h.new _ hj with e | e
 ·have := hc.hfp _ e; omega
 ·omega
end
/-- The k-th sector of a row. -/
def chunkAt (all : List UInt8) (k : Nat) : Blk := pad ((all.drop (128 * k)).take 128)
theorem chunks_range (all : List UInt8) : (List.range ((all.length + 127) / 128)).map (chunkAt all) = (chunks all).map pad := by
 unfold chunks chunkAt
 rw [List.map_map]
 rfl
theorem writes_append : ∀ (l : List Blk) (d : Dev) (q : Int) (c : Blk) (d' : Dev), d.writes q l = (d', 0) → d.writes q (l ++ [c]) = d'.write (q + l.length) c := by
 intro l d q c d' h
 have h1 := writes_snoc (l ++ [c]) d q l.length c d' (by simp) (by rw [List.take_left]; exact h)
 rw [List.take_of_length_le (by simp)] at h1
 exact h1
theorem zero_cells128 : Tryz.zeroCells82 = (u8vs zeros).toArray := by kernel_rfl
/-- 'copy(one[:], x)'. -/
theorem copied (X : World) {b o n c : Nat} {xs : List UInt8} (h : SlAt X (some ⟨b, o, none⟩) n c (u8vs xs)) (hn : n ≤ 128) : ∃ W2, (∀ ty cap, (Builtin.copy_ #[45, 45] ty #[.slice (some ⟨X.heap.size, 0, none⟩) 128 128, .slice (some ⟨b, o, none⟩) n cap]).run Tryz.prog (X.alloc (.cells Tryz.zeroCells82 82)) = .ok (goInt n) W2) ∧
  W2.heap[X.heap.size]? = some (.cells (u8vs (pad xs)).toArray 82 (0, 0)) ∧ Kept [] X W2 := by
 have hl : xs.length = n := by simpa [u8vs] using h.len
 have hg := heap_alloc_new X (.cells Tryz.zeroCells82 82)
 have hk := Kept.alloc [] X (.cells Tryz.zeroCells82 82)
 have hs := h.kept hk (by simp)
 rw [zero_cells128] at hg hk hs ⊢
 obtain ⟨j0, hj0, ju0, ju1, ju2⟩ := info_parts info_u8
 refine ⟨(X.alloc (.cells (u8vs zeros).toArray 82)).setRow X.heap.size ((u8vs zeros).toArray.toList.take 0 ++ u8vs xs ++ (u8vs zeros).toArray.toList.drop (0 + n)).toArray, fun ty cap => ?_, ?_, ?_⟩
 ·have hr := run_copy_row (P := Tryz.prog) (X.alloc (.cells (u8vs zeros).toArray 82)) 45 45 ty 5 X.heap.size 0 128 128 ⟨b, o, none⟩ n cap (u8vs zeros).toArray 82 (u8vs xs) Tryz.underlying45 (by rw [hj0]; simp [ju1]) hg (by simp [u8vs, hl, Nat.min_eq_left hn]) hs.news (by simp [u8vs, hl, length_zeros]; omega) (one_u8s xs)
  have e : (u8vs xs).length = n := by simp [u8vs, hl]
  rw [e] at hr
  exact hr
 ·have e : ((u8vs zeros).toArray.toList.take 0 ++ u8vs xs ++ (u8vs zeros).toArray.toList.drop (0 + n)) = u8vs (pad xs) := by
   simp only [List.take_zero, List.nil_append, Nat.zero_add]
   unfold pad u8vs zeros
   rw [List.map_append, hl, List.map_replicate, List.map_replicate, List.drop_replicate]
  rw [setRow_heap _ _ _ _ _ _ hg, e]
 ·have h2 : Kept [X.heap.size] (X.alloc (.cells (u8vs zeros).toArray 82)) ((X.alloc (.cells (u8vs zeros).toArray 82)).setRow X.heap.size ((u8vs zeros).toArray.toList.take 0 ++ u8vs xs ++ (u8vs zeros).toArray.toList.drop (0 + n)).toArray) :=
   ⟨rfl, rfl, rfl, by simp [World.setRow], fun k _ hk => setRow_other _ _ k _ (fun e => hk (by simp [e]))⟩
  exact hk.trans' h2 (by simp)
/-- Between two rounds. -/
def ApI (w W8 : World) (z a : Nat) (AL : Option Addr) (cL : Nat) (fp : List Nat) (s : St) (d : Dev) (bC oC cC L at_ : Nat) (all : List UInt8) (pre : List Nat) (X : World) : Prop :=
 ∃ d' fp', d.writes (s.first + s.fin / 128 : Nat) (pre.map (chunkAt all)) = (d', 0) ∧ ApLoop w W8 z a AL cL fp s d bC oC cC L at_ all pre.length d' fp' 0 ((s.fin / 128 + pre.length : Nat) : Int) X
/-- A round has answered. -/
def ApIx (w W8 : World) (z a : Nat) (AL : Option Addr) (cL : Nat) (fp : List Nat) (s : St) (d : Dev) (bC oC cC L at_ : Nat) (all : List UInt8) (c : Code) (pre : List Nat) (X : World) : Prop :=
 c = .ret ∧ ∃ d' fp' r k v, r ≠ 0 ∧ d.writes (s.first + s.fin / 128 : Nat) (pre.map (chunkAt all)) = (d', r) ∧ ApLoop w W8 z a AL cL fp s d bC oC cC L at_ all k d' fp' r v X
end Go.Proofs.YtbnflbkaogpnbaaGreat
