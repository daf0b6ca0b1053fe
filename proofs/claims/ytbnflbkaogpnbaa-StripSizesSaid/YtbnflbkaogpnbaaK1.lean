/- The map of what was sure: look, put, clear. -/
import Derived.Test.YtbnflbkaogpnbaaK0
namespace Go.Proofs.Ytbnflbkaogpnbaa
open Go.RowKit Go.Maps
open Go.ChangeMaps (setBlock heap_setBlock_same heap_setBlock_other)

def blkV (b : Blk) : Value := .agg (u8vs b).toArray

theorem zero_cells : Value.agg Try.zeroCells108 = blkV zeros := by kernel_rfl

theorem DevAt.keys_ok {w : World} {a S M : Nat} {K : Option Nat} {d : Dev} (h : DevAt w a S M K d) {es : Array MapEntry} {clk : Nat} (hm : w.heap[M]? = some (.map es clk)) :
    sureOf es = (d.sure.map fun p => (i64v p.1, blkV p.2)) ∧ MapKept.Stamped es clk ∧ ∀ x ∈ es.toList, ∃ l, keyOf Try.prog 3 x.key = some l := by
  obtain ⟨es', clk', hm', hs, hst⟩ := h.sure
  rw [hm] at hm'
  simp only [Option.some.injEq, Obj.map.injEq] at hm'
  obtain ⟨rfl, rfl⟩ := hm'
  refine ⟨hs, hst, ?_⟩
  intro x hx
  have hx2 : (x.key, x.val) ∈ sureOf es := List.mem_map.2 ⟨x, hx, rfl⟩
  rw [hs, List.mem_map] at hx2
  obtain ⟨p, hp, e⟩ := hx2
  simp only [Prod.mk.injEq] at e
  have := h.wf.keyIn p hp
  have := h.wf.many
  exact ⟨_, by rw [← e.1]; exact key_of p.1 (by omega)⟩

theorem look_of_mem {s : List (Nat × Blk)} {i : Nat} {b : Blk} (hn : (s.map (·.1)).Nodup) (h : (i, b) ∈ s) : Dev.look s i = some b := by
  obtain ⟨c, hc⟩ := Dev.look_of_key (s := s) (i := i) (List.mem_map.2 ⟨_, h, rfl⟩)
  rw [hc]
  have hm := Dev.look_mem hc
  induction s with
  | nil => cases h
  | cons p r ih =>
    simp only [List.map_cons, List.nodup_cons] at hn
    rcases List.mem_cons.1 h with h1 | h1 <;> rcases List.mem_cons.1 hm with h2 | h2
    · rw [← h1] at h2; simp at h2; rw [h2]
    · exact absurd (List.mem_map.2 ⟨_, h2, rfl⟩) (by rw [← h1] at hn; exact hn.1)
    · exact absurd (List.mem_map.2 ⟨_, h1, rfl⟩) (by rw [← h2] at hn; exact hn.1)
    · refine ih hn.2 h1 ?_ h2
      have : p.1 ≠ i := fun e => hn.1 (by rw [e]; exact List.mem_map.2 ⟨_, h1, rfl⟩)
      simpa [Dev.look, List.find?_cons, this] using hc

theorem DevAt.lookup {w : World} {a S M : Nat} {K : Option Nat} {d : Dev} (h : DevAt w a S M K d) (c : Bool) (k : Nat) (hk : k < 8193) :
    (Dev.look d.sure k = none ∧ (Instr.lookup 59 (.map (some M)) (.int .i64 k) c).run Try.prog w = .ok (if c then .tuple #[blkV zeros, .bool false] else blkV zeros) w) ∨
    ∃ b, Dev.look d.sure k = some b ∧ (Instr.lookup 59 (.map (some M)) (.int .i64 k) c).run Try.prog w = .ok (if c then .tuple #[blkV b, .bool true] else blkV b) w := by
  obtain ⟨es, clk, hm, _⟩ := h.sure
  obtain ⟨hs, hst, hks⟩ := h.keys_ok hm
  have KK : Keyed Try.prog 3 := int_keyed Try.underlying3
  have hkey := key_of k hk
  rcases KK.find w hkey es.toList hks with ⟨h1, h2⟩ | ⟨j, e0, h1, h2, h3⟩
  · refine .inl ⟨?_, ?_⟩
    · rw [Dev.look_none]
      intro hin
      obtain ⟨p, hp, hpk⟩ := List.mem_map.1 hin
      have : (i64v p.1, blkV p.2) ∈ sureOf es := by rw [hs]; exact List.mem_map.2 ⟨p, hp, rfl⟩
      obtain ⟨x, hx, e⟩ := List.mem_map.1 this
      simp only [Prod.mk.injEq] at e
      exact h2 x hx (by rw [e.1, hpk])
    · have hc := fun em => KK.check w em hkey
      unfold i64v at h1 hc
      cases c <;> simp [Instr.lookup, run_underlying Try.underlying59, MapKept.run_getObj_map hm, hc, h1, zero_cells, Result.andThen]
  · have hm0 : e0 ∈ es.toList := List.mem_of_getElem? h2
    have hx2 : (e0.key, e0.val) ∈ sureOf es := List.mem_map.2 ⟨e0, hm0, rfl⟩
    rw [hs, List.mem_map] at hx2
    obtain ⟨p, hp, e⟩ := hx2
    simp only [Prod.mk.injEq] at e
    have hpk : p.1 = k := by
      have := e.1.trans h3
      simp only [i64v, Value.int.injEq, true_and] at this
      omega
    refine .inr ⟨p.2, look_of_mem h.wf.nodup (by rw [← hpk]; exact hp), ?_⟩
    rw [← e.2] at h1
    have hc := fun em => KK.check w em hkey
    unfold i64v at h1 hc
    cases c <;> simp [Instr.lookup, run_underlying Try.underlying59, MapKept.run_getObj_map hm, hc, h1, Result.andThen]

theorem DevAt.update {w : World} {a S M : Nat} {K : Option Nat} {d : Dev} (h : DevAt w a S M K d) (k : Nat) (hk : k < 8193) (hn : Dev.look d.sure k = none) (b : Blk) :
    ∃ es clk, w.heap[M]? = some (.map es clk) ∧ (Instr.mapUpdate 59 (.map (some M)) (.int .i64 k) (blkV b)).run Try.prog w = .ok () (setBlock w M (.map (es.push { key := i64v k, val := blkV b, born := clk }) (clk + 1))) ∧
      sureOf (es.push { key := i64v k, val := blkV b, born := clk }) = ((d.sure ++ [(k, b)]).map fun p => (i64v p.1, blkV p.2)) ∧ MapKept.Stamped (es.push { key := i64v k, val := blkV b, born := clk }) (clk + 1) := by
  obtain ⟨es, clk, hm, _⟩ := h.sure
  obtain ⟨hs, hst, hks⟩ := h.keys_ok hm
  have KK : Keyed Try.prog 3 := int_keyed Try.underlying3
  have hkey := key_of k hk
  have hne : ∀ x ∈ es.toList, x.key ≠ i64v k := by
    intro x hx hxk
    have hx2 : (x.key, x.val) ∈ sureOf es := List.mem_map.2 ⟨x, hx, rfl⟩
    rw [hs, List.mem_map] at hx2
    obtain ⟨p, hp, e⟩ := hx2
    simp only [Prod.mk.injEq] at e
    have hpk : p.1 = k := by
      have := e.1.trans hxk
      simp only [i64v, Value.int.injEq, true_and] at this
      omega
    exact (Dev.look_none.1 hn) (List.mem_map.2 ⟨p, hp, hpk⟩)
  refine ⟨es, clk, hm, ?_, ?_, MapKept.stamped_push hst hne⟩
  · rcases KK.find w hkey es.toList hks with ⟨h1, h2⟩ | ⟨j, e0, h1, h2, h3⟩
    · have hc := KK.check w false hkey
      unfold i64v at h1 hc ⊢
      simp [Instr.mapUpdate, run_underlying Try.underlying59, MapKept.run_getObj_map hm, hc, h1, MapKept.run_setObj_map _ hm, Result.andThen, setBlock]
    · exact absurd h3 (hne e0 (List.mem_of_getElem? h2))
  · rw [List.map_append, ← hs]
    simp [sureOf]

theorem DevAt.clear {w : World} {a S M : Nat} {K : Option Nat} {d : Dev} (h : DevAt w a S M K d) :
    ∃ clk, (∃ es, w.heap[M]? = some (.map es clk)) ∧ ∀ ty, (Builtin.clear_ #[59] ty #[.map (some M)]).run Try.prog w = .ok (.tuple #[]) (setBlock w M (.map #[] clk)) := by
  obtain ⟨es, clk, hm, _⟩ := h.sure
  refine ⟨clk, ⟨es, hm⟩, fun ty => ?_⟩
  simp [Builtin.clear_, run_underlying Try.underlying59, MapKept.run_getObj_map hm, MapKept.run_setObj_map _ hm, Result.andThen, setBlock]
end Go.Proofs.Ytbnflbkaogpnbaa
