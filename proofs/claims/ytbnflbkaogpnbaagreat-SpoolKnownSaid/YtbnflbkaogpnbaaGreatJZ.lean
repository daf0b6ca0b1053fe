/- Facts of the whole program that each row asks, each by itself (together they take 10 GB). -/
import Derived.Test.YtbnflbkaogpnbaaGreatRows
import Derived.ProofKit
import Derived.SizedLaws
namespace Go.Proofs.YtbnflbkaogpnbaaGreat
open Go.RowKit

theorem jf_laid : laidOutB Tryz.pinned.checked.prog = true := by kernel_rfl
theorem jf_rowed : mapsRowed Tryz.pinned.checked.prog = true := by kernel_rfl
theorem jf_stops : (Tryz.pinned.checked.prog.stops == []) = true := by kernel_rfl
theorem jf_knobs : (Tryz.pinned.checked.prog.stopKnobs == []) = true := by kernel_rfl
theorem jf_heard : Tryz.pinned.checked.prog.stopsHeard = true := by kernel_rfl
theorem jf_enter : Tryz.pinned.checked.prog.mayEnter = true := by kernel_rfl
theorem jf_lifts : Tryz.pinned.checked.prog.liftsFinal = Rows.spoolKnownRow.lifted := by kernel_rfl
theorem jf_make : Tryz.pinned.checked.prog.make = some Rows.spoolKnownRow.make := by kernel_rfl
theorem jf_own : ownKnob Tryz.prog.godebug = none := by kernel_rfl
theorem jf_laidOut : laidOutB Tryz.prog = true := by kernel_rfl
end Go.Proofs.YtbnflbkaogpnbaaGreat
