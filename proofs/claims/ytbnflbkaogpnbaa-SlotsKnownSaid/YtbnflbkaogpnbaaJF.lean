/- Facts of the whole program that each row asks, each by itself (together they take 10 GB). -/
import Derived.Test.YtbnflbkaogpnbaaRows
import Derived.ProofKit
import Derived.SizedLaws
namespace Go.Proofs.Ytbnflbkaogpnbaa
open Go.RowKit

theorem jf_laid : laidOutB Try.pinned.checked.prog = true := by kernel_rfl
theorem jf_rowed : mapsRowed Try.pinned.checked.prog = true := by kernel_rfl
theorem jf_stops : (Try.pinned.checked.prog.stops == []) = true := by kernel_rfl
theorem jf_knobs : (Try.pinned.checked.prog.stopKnobs == []) = true := by kernel_rfl
theorem jf_heard : Try.pinned.checked.prog.stopsHeard = true := by kernel_rfl
theorem jf_enter : Try.pinned.checked.prog.mayEnter = true := by kernel_rfl
theorem jf_lifts : Try.pinned.checked.prog.liftsFinal = Rows.sectorKeepsRow.lifted := by kernel_rfl
theorem jf_make : Try.pinned.checked.prog.make = some Rows.sectorKeepsRow.make := by kernel_rfl
theorem jf_own : ownKnob Try.prog.godebug = none := by kernel_rfl
theorem jf_laidOut : laidOutB Try.prog = true := by kernel_rfl
end Go.Proofs.Ytbnflbkaogpnbaa
