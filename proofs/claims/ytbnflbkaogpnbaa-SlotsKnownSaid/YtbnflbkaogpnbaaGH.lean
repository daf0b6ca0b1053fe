/- What the pairs of the chapters 11, 12 and 13 share. -/
import Derived.Test.YtbnflbkaogpnbaaRA
import Derived.Test.YtbnflbkaogpnbaaQA
import Derived.Test.YtbnflbkaogpnbaaXB
namespace Go.Proofs.Ytbnflbkaogpnbaa
set_option linter.unusedVariables false
open Go.RowKit

def TlRel12 (w : World) (n : Nat) (i : Value) (wr : World) : Prop := ∃ k : Nat, k ≤ n ∧ i = .int .i64 k ∧ Kept [] w wr

theorem eqb_true (w : World) (A B : Option Addr) (n c m d : Nat) (xs : List UInt8) (hx : SlAt w A n c (u8vs xs)) (hy : SlAt w B m d (u8vs xs)) : Calls Try.prog 31 #[.slice A n c, .slice B m d] w (TrueKept w) := by
  refine (eqBytes_any w A B n c m d xs xs hx hy).mono ?_
  rintro e w' ⟨rfl, q, rfl⟩
  exact ⟨by simp, Kept.drewN [] w q⟩

def D11.cells (x : D11) : Array Value := #[.int .i64 x.kind, .int .i64 x.num, .slice x.data.A x.data.n x.data.c, .slice x.keepA x.keepn x.keepc]

def D11.val (x : D11) : Value := .agg x.cells

theorem dev_len (d : Dev) : d.flush.1.secs.length = d.secs.length ∧ (∀ k, (d.crash k).1.secs.length = d.secs.length) ∧ (∀ n k, (d.failAt n k).1.secs.length = d.secs.length) ∧ (∀ n, (d.refuse n).1.secs.length = d.secs.length) ∧ d.boot.secs.length = d.secs.length := by
  refine ⟨?_, fun k => ?_, fun n k => ?_, fun n => ?_, rfl⟩
  · unfold Dev.flush
    split
    · rfl
    · split
      · rfl
      · split
        · simp [Dev.gone, Dev.length_backs]
        · rfl
  · unfold Dev.crash
    split
    · rfl
    · simp [Dev.gone, Dev.length_backs]
  · unfold Dev.failAt
    split
    · rfl
    · rfl
  · unfold Dev.refuse
    split
    · rfl
    · rfl

theorem dev_works (d : Dev) : d.flush.1.works ≤ d.works + 1 ∧ (∀ k, (d.crash k).1.works = d.works) ∧ (∀ n k, (d.failAt n k).1.works = d.works) ∧ (∀ n, (d.refuse n).1.works = d.works) ∧ d.boot.works = d.works := by
  refine ⟨?_, fun k => ?_, fun n k => ?_, fun n => ?_, rfl⟩
  · unfold Dev.flush
    split
    · show d.works ≤ _
      omega
    · split
      · show d.works ≤ _
        omega
      · split
        · show d.works ≤ _
          omega
        · show d.works + 1 ≤ _
          omega
  · unfold Dev.crash
    split
    · rfl
    · rfl
  · unfold Dev.failAt
    split
    · rfl
    · rfl
  · unfold Dev.refuse
    split
    · rfl
    · rfl

theorem writes_works_le : ∀ (cs : List Blk) (d : Dev) (q : Int), (d.writes q cs).1.works ≤ d.works + cs.length := by
  intro cs
  induction cs with
  | nil => intro d q; show d.works ≤ _; omega
  | cons c cs ih =>
    intro d q
    have h1 := write_works d q c
    rw [Dev.writes, List.length_cons]
    split
    · have h2 := ih (d.write q c).1 (q + 1)
      push_cast
      omega
    · push_cast
      omega

theorem keep_out {w0 w : World} {x : D11} (hx : x.Ok w0) (hk : Kept [] w0 w) {F : List Nat} (hF : ∀ j ∈ F, w0.heap.size ≤ j) : SlAt w x.keepA x.keepn x.keepc (x.keep.map i64v) ∧ ∀ p, x.keepA = some p → 0 < x.keepn → p.block ∉ F :=
  ⟨hx.keepS.kept hk (by simp), fun p e hn hm => by
    have h1 := hx.keepS.lt' hn e
    have h2 := hF _ hm
    omega⟩

theorem rs_new (n : Nat) : (RS.new n).Is (Dev.new n) :=
  ⟨by simp [RS.new, Dev.new], fun i hi => by simp [RS.new] at hi; simp [Dev.new, RS.new, hi], fun i hi => by simp [Dev.new, RS.new, Dev.look], fun i hi => by simp [Dev.new, RS.new, Dev.look], rfl, rfl, rfl, rfl, rfl, rfl⟩

end Go.Proofs.Ytbnflbkaogpnbaa
