/- A work of a device: Flush; and Write, Flush, Crash whole. -/
import Derived.Test.YtbnflbkaogpnbaaH0
namespace Go.Proofs.Ytbnflbkaogpnbaa
open Go.RowKit Go.Maps
open Go.ChangeMaps (setBlock heap_setBlock_same heap_setBlock_other)

theorem cleared_at {w : World} {a S M : Nat} {K : Option Nat} {d : Dev} (hD : DevAt w a S M K d) :
    ∃ W, (∀ ty, (Builtin.clear_ #[59] ty #[.map (some M)]).run Try.prog w = .ok (.tuple #[]) W) ∧ DevAt W a S M K { d with sure := [] } ∧ Kept [M] w W := by
  obtain ⟨clk, ⟨es, hme⟩, hcl⟩ := hD.clear
  exact ⟨_, hcl, hD.putSure hD.wf.cleared (es := #[]) (clk := clk) rfl (MapKept.stamped_empty clk), Kept.setBlock hme (by simp) _⟩

/-- What the end of a Flush does. -/
def DonePost (w : World) (a S M : Nat) (K : Option Nat) (d : Dev) (e : Ending) (w' : World) : Prop := e = .returned (.tuple #[]) ∧ DevAt w' a S M K { d with sure := [] } ∧ Kept [M] w w'

set_option maxHeartbeats 400000 in
theorem flush2_any {w : World} {a S M : Nat} {K : Option Nat} {d : Dev} (hD : DevAt w a S M K d) (x : Nat) (hx : w.cell? ⟨x, 0, none⟩ = some (.pointer (some ⟨a, 0, none⟩))) :
    Calls Try.prog 68 #[.pointer (some ⟨x, 0, none⟩)] w (DonePost w a S M K d) := by
  have c1 := hD.cells.2.1
  obtain ⟨W, hcl, hDW, hkW⟩ := cleared_at hD
  go_enter Try.func68, Try.ntmps68
  go_wp2
  go_end0
  exact ⟨rfl, hDW, hkW⟩

def Dev.workF (d : Dev) : Dev × Int := if d.till = 0 then (d, 101) else if d.fail = 0 then (d.gone d.keep, 100) else ({ d with sure := [] }.counted, 0)

set_option maxHeartbeats 1000000 in
set_option maxRecDepth 100000 in
theorem workF_any {w : World} {a S M : Nat} {K : Option Nat} {d : Dev} (hD : DevAt w a S M K d) (x : Nat)
    (hx : w.cell? ⟨x, 0, none⟩ = some (.pointer (some ⟨a, 0, none⟩))) (hwk : d.works < 9223372036854775807) :
    Calls Try.prog 66 #[.pointer (some ⟨a, 0, none⟩), .func (.func 67) #[] #[], .func (.func 68) #[] #[.pointer (some ⟨x, 0, none⟩)]] w
      (DevPost w a S M K d.workF) := by
  unfold Dev.workF
  obtain ⟨c0, c1, c2, c4, c5, c6, cf⟩ := hD.cells
  have hw1 := flush2_any hD x hx
  by_cases ht : d.till = 0
  · rw [if_pos ht]
    rw [ht] at c4
    clear c0 c1 c2 c5 c6 cf hw1 hx ht
    go_enter Try.func66, Try.ntmps66
    go_wp2
    go_ret
    exact DevPost.same hD
  · have ht2 : (d.till == 0) = false := by simpa using ht
    rw [if_neg ht]
    by_cases hf : d.fail = 0
    · rw [if_pos hf]
      rw [hf] at c2
      obtain ⟨Ak, ck, g3, hsk, hSk⟩ := hD.keep_cell
      clear c0 c1 c5 c6 cf hx ht hf
      go_enter Try.func66, Try.ntmps66
      go_wp2_with (first | (go_at_call 67; refine (flush1_any _).mono ?_; rintro e w' ⟨rfl, rfl⟩) | (go_at_call 72; refine (gone_any hD _ _ _ _ hsk (fun p hp _ => hSk p hp)).mono ?_; rintro e W' hpost; obtain ⟨rfl, hrest⟩ := hpost))
      go_ret
      exact ⟨rfl, hrest⟩
    · rw [if_neg hf]
      have hf2 : (d.fail == 0) = false := by simpa using hf
      have HF := Lib.hid hf2
      have hw0 := hD.wf.works0
      have hf0 := hD.wf.fail0; have hf1 := hD.wf.fail1; have ht0 := hD.wf.till0; have ht1 := hD.wf.till1
      clear c0 c1 c5 c6 cf hx ht hf
      go_enter Try.func66, Try.ntmps66
      go_wp2_with (first | (go_at_call 67; refine (flush1_any _).mono ?_; rintro e w' ⟨rfl, rfl⟩) | (go_at_call 68; refine hw1.mono ?_; rintro e W ⟨rfl, hDW, hkW⟩; obtain ⟨g0, g1, g2, g4, g5, g6, gf⟩ := hDW.cells; clear g0 g1 g6))
      have w2 : (W.setCell ⟨a, 5, none⟩ (.int .i64 (d.works + 1))).cell? ⟨a, 2, none⟩ = some (.int .i64 d.fail) := (World.cell?_setCell_other _ _ _ _ (by simp)).trans g2
      have w4 : (W.setCell ⟨a, 5, none⟩ (.int .i64 (d.works + 1))).cell? ⟨a, 4, none⟩ = some (.int .i64 d.till) := (World.cell?_setCell_other _ _ _ _ (by simp)).trans g4
      have wf : ∀ i, (W.setCell ⟨a, 5, none⟩ (.int .i64 (d.works + 1))).frozen? ⟨a, i, none⟩ = false := fun i => by rw [World.frozen?_setCell]; exact gf i
      have hkw5 : Kept [a] W (W.setCell ⟨a, 5, none⟩ (.int .i64 (d.works + 1))) := Kept.setCell (by simp) _
      have hh5 : ∀ kv, W.heap[a]? = some (.cells #[.slice (some ⟨S, 0, none⟩) d.secs.length d.secs.length, .map (some M), .int .i64 d.fail, kv, .int .i64 d.till, .int .i64 d.works, .bool d.dead] 61 (0, 0)) →
          (W.setCell ⟨a, 5, none⟩ (.int .i64 (d.works + 1))).heap[a]? = some (.cells #[.slice (some ⟨S, 0, none⟩) d.secs.length d.secs.length, .map (some M), .int .i64 d.fail, kv, .int .i64 d.till, .int .i64 (d.works + 1), .bool d.dead] 61 (0, 0)) := fun kv hh => by
        rw [heap_set hh]; rfl
      generalize W.setCell ⟨a, 5, none⟩ (.int .i64 (d.works + 1)) = W5 at *
      clear g2 g4 g5 gf hf2
      have hkF : Kept [a] W ((W5.setCell ⟨a, 2, none⟩ (.int .i64 (max (d.fail - 1) (-1)))).setCell ⟨a, 4, none⟩ (.int .i64 (max (d.till - 1) (-1)))).drew := ((hkw5.trans (Kept.setCell (by simp) _)).trans (Kept.setCell (by simp) _)).trans (Kept.drew _ _)
      go_region
      go_wp2
      go_ret
      refine DevPost.of_mid (hkW.mono (by simp)) ⟨rfl, K, hDW.rehead hkF hDW.wf.counted rfl rfl (fun kv hh => ?_) rfl, hkF.mono (fun i hi => .inl (by simp at hi; simp [hi])), fun _ e => .inl e⟩
      show (((W5.setCell ⟨a, 2, none⟩ (.int .i64 (max (d.fail - 1) (-1)))).setCell ⟨a, 4, none⟩ (.int .i64 (max (d.till - 1) (-1)))).heap)[a]? = _
      rw [heap_set (heap_set (hh5 kv hh) 2 _) 4 _]
      rfl
end Go.Proofs.Ytbnflbkaogpnbaa
