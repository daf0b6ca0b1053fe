/- A strip's Append: what its last steps need. -/
import Derived.Test.YtbnflbkaogpnbaaV4a
import Derived.Test.YtbnflbkaogpnbaaV5
namespace Go.Proofs.Ytbnflbkaogpnbaa
open Go.RowKit

theorem SlAt.blk {w : World} {g n : Nat} {xs : List Value} {t : TypeId} {fz : Nat × Nat} (h : w.heap[g]? = some (.cells xs.toArray t fz)) (hn : xs.length = n) (hm : n ≤ maxLen) : SlAt w (some ⟨g, 0, none⟩) n n xs :=
  ⟨hn, Nat.le_refl _, hm, fun _ => ⟨g, 0, rfl, World.lt_of_heap h, fun i _ => by rw [blk_cell h, Nat.zero_add, List.getElem?_toArray]⟩⟩

theorem write_works (d : Dev) (i : Int) (b : Blk) : (d.write i b).1.works ≤ d.works + 1 := by
  unfold Dev.write
  split
  · simp only; omega
  · split
    · simp only; omega
    · split
      · simp only; omega
      · split
        · simp only [Dev.gone, Dev.midst]; omega
        · simp only [Dev.counted, Dev.midst]; omega

theorem chunk_cut {all : List UInt8} {L k e : Nat} (hL : all.length = L) (he : min 128 (L - 128 * k) = e) (hk : 128 * k ≤ L) : (all.take (128 * k + e)).drop (128 * k) = (all.drop (128 * k)).take 128 := by
  rw [List.drop_take, show 128 * k + e - 128 * k = e by omega]
  apply List.take_eq_take_iff.2
  rw [List.length_drop, hL]
  omega

theorem stays_kept {R F : List Nat} {X Y Z : World} (h : Stays R X Y) (hk : Kept F Y Z) (hF : ∀ j ∈ R, j ∉ F) : Stays R X Z := h.trans (Stays.of_kept hk (fun j hj _ => hF j hj))

theorem stays_sub {a b : Nat} {R : List Nat} {X Y : World} (h : Stays (a :: b :: R) X Y) : Stays [a, b] X Y := ⟨h.size, fun k hk => h.same k (by simp at hk ⊢; rcases hk with rfl | rfl <;> simp)⟩

/-- What is kept of a row behind the last whole sector. -/
theorem last_sl {w : World} {b o n c : Nat} {xs : List UInt8} (h : SlAt w (some ⟨b, o, none⟩) n c (u8vs xs)) : SlAt w (if c = n - n % 128 then some ⟨b, o, none⟩ else some ⟨b, o + (n - n % 128), none⟩) (n - (n - n % 128)) (c - (n - n % 128)) (u8vs (xs.drop (n - n % 128))) := by
  have hl : xs.length = n := by simpa [u8vs] using h.len
  have hnc := h.le; have hcm := h.max
  split
  · exact ⟨by simp [u8vs, hl], by omega, by omega, fun hn => by omega⟩
  · have h1 := h.cut (i := n - n % 128) (j := n) (by omega) (by omega)
    rwa [List.take_of_length_le (by omega)] at h1

theorem ApLoop.ends {w W8 : World} {z a : Nat} {AL : Option Addr} {cL : Nat} {fp sp : List Nat} {s : St} {d : Dev} {bC oC cC L at_ : Nat} {all : List UInt8} {k : Nat} {d' : Dev} {fp' : List Nat} {r v : Int} {X : World} (hc : ApCtx w W8 z AL fp at_ bC)
    (h : ApLoop w W8 z a AL cL fp s d bC oC cC L at_ all k d' fp' r v X) (hz : z ∈ sp) (hlt : ∀ j ∈ sp, j < w.heap.size) (hne : ∀ j ∈ sp, j ∉ fp) (hAL : AL = none → cL = 0) (hLn : ∀ p, AL = some p → p.block ∈ sp ∧ p.block ≠ z) :
    AppPost w z a fp sp (s, d', r) (.returned (.int .i64 r)) X := by
  have h1 := hc.size
  refine ⟨rfl, fp', sp, h.dv, ⟨⟨AL, cL, h.zl, h.sl, hAL, hLn⟩, hz, fun j hj => Nat.lt_of_lt_of_le (hlt j hj) h.kept.size⟩, h.kept.mono (fun i hi => .inl (List.mem_append_left _ hi)), fun j hj => ?_, fun j hj => .inl hj, fun j hj hm => ?_⟩
  · rcases h.new j hj with e | e
    · exact .inl e
    · exact .inr (by omega)
  · rcases h.new j hm with e | e
    · exact hne j hj e
    · have := hlt j hj; omega

theorem ApLoop.done {w W8 : World} {z a : Nat} {AL : Option Addr} {cL : Nat} {fp sp : List Nat} {s s' : St} {d : Dev} {bC oC cC L at_ : Nat} {all : List UInt8} {k : Nat} {d' : Dev} {fp' : List Nat} {r v : Int} {X X1 Y : World} (hc : ApCtx w W8 z AL fp at_ bC)
    (h : ApLoop w W8 z a AL cL fp s d bC oC cC L at_ all k d' fp' r v X) (hz : z ∈ sp) (hD : W8.heap.size < X.heap.size) (hk1 : Kept [] X X1) {AN : Option Addr} {cN : Nat} (hs : SlAt X1 AN s'.last.length cN (u8vs s'.last)) (hAN : AN = none → cN = 0)
    (hNn : ∀ p, AN = some p → X.heap.size ≤ p.block ∧ p.block < X1.heap.size) (hkY : Kept [z, w.heap.size + 1, W8.heap.size] X1 Y) (hzY : Y.heap[z]? = some (.cells #[.pointer (some ⟨a, 0, none⟩), .int .i64 s'.first, .int .i64 s'.many, .int .i64 s'.fin, .slice AN s'.last.length cN] 78 (0, 0))) :
    AppPost w z a fp sp (s', d', 0) (.returned (.int .i64 0)) Y := by
  have h1 := hc.size; have h2 := hc.hz
  have hfl : ∀ j ∈ fp', j < X.heap.size := h.dv.lt
  have hfz : ∀ j ∈ fp', j ≠ z ∧ j ≠ w.heap.size + 1 ∧ j ≠ W8.heap.size := fun j hj => by
    rcases h.new j hj with e | e
    · have h3 := hc.hfp j e
      exact ⟨fun e2 => hc.hzfp (e2 ▸ e), by omega, by omega⟩
    · omega
  have hzX : z < X1.heap.size := Nat.lt_of_lt_of_le (World.lt_of_heap h.zl) hk1.size
  refine ⟨rfl, fp', z :: (AN.map (·.block)).toList, (h.dv.new_kept hk1).kept hkY (fun j hj hm => ?_), ⟨⟨AN, cN, hzY, hs.kept hkY (fun p e hm => ?_), hAN, fun p e => ?_⟩, by simp, fun j hj => ?_⟩, ?_, fun j hj => ?_, fun j hj => ?_, fun j hj hm => ?_⟩
  · simp only [List.mem_cons, List.not_mem_nil, or_false] at hm
    have := hfz j hj
    rcases hm with e | e | e <;> simp [e] at this
  · simp only [List.mem_cons, List.not_mem_nil, or_false] at hm
    have h3 := (hNn p e).1
    have h4 := World.lt_of_heap h.zl
    have h5 := World.lt_of_heap h.rt
    omega
  · subst e
    exact ⟨by simp, fun e2 => by have h3 := (hNn p rfl).1; have h4 := World.lt_of_heap h.zl; omega⟩
  · simp only [List.mem_cons, Option.mem_toList, Option.map_eq_some_iff] at hj
    rcases hj with rfl | ⟨p, e, rfl⟩
    · exact Nat.lt_of_lt_of_le hzX hkY.size
    · exact Nat.lt_of_lt_of_le (hNn p e).2 hkY.size
  · refine ((h.kept.trans' hk1 (by simp)).mono (fun i hi => .inl (List.mem_append_left _ hi))).trans' hkY (fun i hi => ?_)
    simp only [List.mem_cons, List.not_mem_nil, or_false] at hi
    rcases hi with rfl | rfl | rfl
    · exact .inl (List.mem_append_right _ hz)
    · exact .inr (by omega)
    · exact .inr (by omega)
  · rcases h.new j hj with e | e
    · exact .inl e
    · exact .inr (by omega)
  · simp only [List.mem_cons, Option.mem_toList, Option.map_eq_some_iff] at hj
    rcases hj with rfl | ⟨p, e, rfl⟩
    · exact .inl hz
    · have := (hNn p e).1; exact .inr (by omega)
  · simp only [List.mem_cons, Option.mem_toList, Option.map_eq_some_iff] at hj
    rcases hj with rfl | ⟨p, e, rfl⟩
    · exact (hfz _ hm).1 rfl
    · have h3 := (hNn p e).1; have h4 := hfl _ hm; omega
end Go.Proofs.Ytbnflbkaogpnbaa
