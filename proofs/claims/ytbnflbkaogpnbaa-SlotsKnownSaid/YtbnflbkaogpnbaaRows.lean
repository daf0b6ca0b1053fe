/-
  No cell of these rows narrows 'for every input' (looked for: loops, veiled, ifaces, maps, wideKeys, modest, calm, conditions, laid).
  DERIVED. THE GIVEN ROWS OF THIS SEAT. 18 by the template 'for every input the law returns true; each argument reads behind the call as it read before'; 0 by the template 'total and deterministic' (their statements: YtbnflbkaogpnbaaTotals.lean).
  GIVEN WITH THE SEED: the statements are not yours to turn. If you find one false, say at which input.
  Laid BY PROGRAM, IN A SANDBOX (cutbox-rows.mjs): the forced cells as the released guide's own fill.sh prints them over the translation a389a0cd7f338fe7… (all of the seat's roots in one cut). By AI agents, Wed Nov 11 2026. No macro, syntax, notation, axiom, sorry.
-/
import Derived.Test.YtbnflbkaogpnbaaChecked
import GoSem.Claim
import GoSem.ClaimJoined
import GoSem.ClaimMapViews
import Derived.JoinedTies
import Derived.KernelRfl
namespace Go.Proofs.Ytbnflbkaogpnbaa
/- THE CELL 'sum', in the pinned program and in every row, IS THE sha256 OF THE DUMP (.gsa) THAT YtbnflbkaogpnbaaProg.lean LOADS. Nothing in Lean hashes anything: it is a label: what it is worth is what the hold of that sum in a sandbox is worth. -/
noncomputable def Try.pinned : Pinned := { name := "ytbnflbkaogpnbaa", sum := "a389a0cd7f338fe78bd38961e22d6db1e6764c4efd38ffa720f6ba0c29b780f0", checked := Try.checked }
namespace Rows
def none {H : Type} : Left H := { results := [], args := [] }

/-- 'muslinlaw10.SectorKeeps': WHATEVER THE INPUT: true; the input reads as it did. -/
def sectorKeepsSpec : ChangeSpec := { name := "sectorKeeps", fn := fun _ => fun
  | [d1, d2] => { results := [.lit (.bool true)], args := [d1, d2] }
  | _ => none }
def sectorKeepsRow : OpenClaim := { program := "ytbnflbkaogpnbaa", sum := "a389a0cd7f338fe78bd38961e22d6db1e6764c4efd38ffa720f6ba0c29b780f0", func := "muslin/muslinlaw10.SectorKeeps", spec := "sectorKeeps", unfollowed := true, recurses := true, apart := false }
def SectorKeepsSaid : Prop := sectorKeepsRow.holds Try.pinned (OpenSpec.ofChange sectorKeepsSpec)

/-- ITS FALSE NEIGHBOUR: 'it returns false'. Refute it at one input. -/
def sectorKeepsWrong : ChangeSpec := { name := "sectorKeeps", fn := fun _ => fun
  | [d1, d2] => { results := [.lit (.bool false)], args := [d1, d2] }
  | _ => none }
def SectorKeepsWrongFalsely : Prop := sectorKeepsRow.holds Try.pinned (OpenSpec.ofChange sectorKeepsWrong)

/-- 'muslinlaw10.SectorAlone': WHATEVER THE INPUT: true; the input reads as it did. -/
def sectorAloneSpec : ChangeSpec := { name := "sectorAlone", fn := fun _ => fun
  | [d1, d2] => { results := [.lit (.bool true)], args := [d1, d2] }
  | _ => none }
def sectorAloneRow : OpenClaim := { program := "ytbnflbkaogpnbaa", sum := "a389a0cd7f338fe78bd38961e22d6db1e6764c4efd38ffa720f6ba0c29b780f0", func := "muslin/muslinlaw10.SectorAlone", spec := "sectorAlone", unfollowed := true, recurses := true, apart := false }
def SectorAloneSaid : Prop := sectorAloneRow.holds Try.pinned (OpenSpec.ofChange sectorAloneSpec)

/-- ITS FALSE NEIGHBOUR: 'it returns false'. Refute it at one input. -/
def sectorAloneWrong : ChangeSpec := { name := "sectorAlone", fn := fun _ => fun
  | [d1, d2] => { results := [.lit (.bool false)], args := [d1, d2] }
  | _ => none }
def SectorAloneWrongFalsely : Prop := sectorAloneRow.holds Try.pinned (OpenSpec.ofChange sectorAloneWrong)

/-- 'muslinlaw10.SectorRefuses': WHATEVER THE INPUT: true; the input reads as it did. -/
def sectorRefusesSpec : ChangeSpec := { name := "sectorRefuses", fn := fun _ => fun
  | [d1, d2] => { results := [.lit (.bool true)], args := [d1, d2] }
  | _ => none }
def sectorRefusesRow : OpenClaim := { program := "ytbnflbkaogpnbaa", sum := "a389a0cd7f338fe78bd38961e22d6db1e6764c4efd38ffa720f6ba0c29b780f0", func := "muslin/muslinlaw10.SectorRefuses", spec := "sectorRefuses", unfollowed := true, recurses := true, apart := false }
def SectorRefusesSaid : Prop := sectorRefusesRow.holds Try.pinned (OpenSpec.ofChange sectorRefusesSpec)

/-- ITS FALSE NEIGHBOUR: 'it returns false'. Refute it at one input. -/
def sectorRefusesWrong : ChangeSpec := { name := "sectorRefuses", fn := fun _ => fun
  | [d1, d2] => { results := [.lit (.bool false)], args := [d1, d2] }
  | _ => none }
def SectorRefusesWrongFalsely : Prop := sectorRefusesRow.holds Try.pinned (OpenSpec.ofChange sectorRefusesWrong)

/-- 'muslinlaw10.SectorFails': WHATEVER THE INPUT: true; the input reads as it did. -/
def sectorFailsSpec : ChangeSpec := { name := "sectorFails", fn := fun _ => fun
  | [d1, d2] => { results := [.lit (.bool true)], args := [d1, d2] }
  | _ => none }
def sectorFailsRow : OpenClaim := { program := "ytbnflbkaogpnbaa", sum := "a389a0cd7f338fe78bd38961e22d6db1e6764c4efd38ffa720f6ba0c29b780f0", func := "muslin/muslinlaw10.SectorFails", spec := "sectorFails", unfollowed := true, recurses := true, apart := false }
def SectorFailsSaid : Prop := sectorFailsRow.holds Try.pinned (OpenSpec.ofChange sectorFailsSpec)

/-- ITS FALSE NEIGHBOUR: 'it returns false'. Refute it at one input. -/
def sectorFailsWrong : ChangeSpec := { name := "sectorFails", fn := fun _ => fun
  | [d1, d2] => { results := [.lit (.bool false)], args := [d1, d2] }
  | _ => none }
def SectorFailsWrongFalsely : Prop := sectorFailsRow.holds Try.pinned (OpenSpec.ofChange sectorFailsWrong)

/-- 'muslinlaw10.SectorDoes': WHATEVER THE INPUT: true; the input reads as it did. -/
def sectorDoesSpec : ChangeSpec := { name := "sectorDoes", fn := fun _ => fun
  | [d1, d2] => { results := [.lit (.bool true)], args := [d1, d2] }
  | _ => none }
def sectorDoesRow : OpenClaim := { program := "ytbnflbkaogpnbaa", sum := "a389a0cd7f338fe78bd38961e22d6db1e6764c4efd38ffa720f6ba0c29b780f0", func := "muslin/muslinlaw10.SectorDoes", spec := "sectorDoes", unfollowed := true, recurses := true, apart := false }
def SectorDoesSaid : Prop := sectorDoesRow.holds Try.pinned (OpenSpec.ofChange sectorDoesSpec)

/-- ITS FALSE NEIGHBOUR: 'it returns false'. Refute it at one input. -/
def sectorDoesWrong : ChangeSpec := { name := "sectorDoes", fn := fun _ => fun
  | [d1, d2] => { results := [.lit (.bool false)], args := [d1, d2] }
  | _ => none }
def SectorDoesWrongFalsely : Prop := sectorDoesRow.holds Try.pinned (OpenSpec.ofChange sectorDoesWrong)

/-- 'muslinlaw10.SectorKnown': WHATEVER THE INPUT: true; the input reads as it did. -/
def sectorKnownSpec : ChangeSpec := { name := "sectorKnown", fn := fun _ => fun
  | [] => { results := [.lit (.bool true)], args := [] }
  | _ => none }
def sectorKnownRow : OpenClaim := { program := "ytbnflbkaogpnbaa", sum := "a389a0cd7f338fe78bd38961e22d6db1e6764c4efd38ffa720f6ba0c29b780f0", func := "muslin/muslinlaw10.SectorKnown", spec := "sectorKnown", unfollowed := true, recurses := true, apart := false }
def SectorKnownSaid : Prop := sectorKnownRow.holds Try.pinned (OpenSpec.ofChange sectorKnownSpec)

/-- ITS FALSE NEIGHBOUR: 'it returns false'. Refute it at one input. -/
def sectorKnownWrong : ChangeSpec := { name := "sectorKnown", fn := fun _ => fun
  | [] => { results := [.lit (.bool false)], args := [] }
  | _ => none }
def SectorKnownWrongFalsely : Prop := sectorKnownRow.holds Try.pinned (OpenSpec.ofChange sectorKnownWrong)

/-- 'muslinlaw12.StripSizes': WHATEVER THE INPUT: true; the input reads as it did. -/
def stripSizesSpec : ChangeSpec := { name := "stripSizes", fn := fun _ => fun
  | [d] => { results := [.lit (.bool true)], args := [d] }
  | _ => none }
def stripSizesRow : OpenClaim := { program := "ytbnflbkaogpnbaa", sum := "a389a0cd7f338fe78bd38961e22d6db1e6764c4efd38ffa720f6ba0c29b780f0", func := "muslin/muslinlaw12.StripSizes", spec := "stripSizes", unfollowed := true, recurses := true, apart := false }
def StripSizesSaid : Prop := stripSizesRow.holds Try.pinned (OpenSpec.ofChange stripSizesSpec)

/-- ITS FALSE NEIGHBOUR: 'it returns false'. Refute it at one input. -/
def stripSizesWrong : ChangeSpec := { name := "stripSizes", fn := fun _ => fun
  | [d] => { results := [.lit (.bool false)], args := [d] }
  | _ => none }
def StripSizesWrongFalsely : Prop := stripSizesRow.holds Try.pinned (OpenSpec.ofChange stripSizesWrong)

/-- 'muslinlaw12.StripBack': WHATEVER THE INPUT: true; the input reads as it did. -/
def stripBackSpec : ChangeSpec := { name := "stripBack", fn := fun _ => fun
  | [d1, d2] => { results := [.lit (.bool true)], args := [d1, d2] }
  | _ => none }
def stripBackRow : OpenClaim := { program := "ytbnflbkaogpnbaa", sum := "a389a0cd7f338fe78bd38961e22d6db1e6764c4efd38ffa720f6ba0c29b780f0", func := "muslin/muslinlaw12.StripBack", spec := "stripBack", unfollowed := true, recurses := true, apart := false }
def StripBackSaid : Prop := stripBackRow.holds Try.pinned (OpenSpec.ofChange stripBackSpec)

/-- ITS FALSE NEIGHBOUR: 'it returns false'. Refute it at one input. -/
def stripBackWrong : ChangeSpec := { name := "stripBack", fn := fun _ => fun
  | [d1, d2] => { results := [.lit (.bool false)], args := [d1, d2] }
  | _ => none }
def StripBackWrongFalsely : Prop := stripBackRow.holds Try.pinned (OpenSpec.ofChange stripBackWrong)

/-- 'muslinlaw12.StripTurned': WHATEVER THE INPUT: true; the input reads as it did. -/
def stripTurnedSpec : ChangeSpec := { name := "stripTurned", fn := fun _ => fun
  | [d1, d2, d3] => { results := [.lit (.bool true)], args := [d1, d2, d3] }
  | _ => none }
def stripTurnedRow : OpenClaim := { program := "ytbnflbkaogpnbaa", sum := "a389a0cd7f338fe78bd38961e22d6db1e6764c4efd38ffa720f6ba0c29b780f0", func := "muslin/muslinlaw12.StripTurned", spec := "stripTurned", unfollowed := true, recurses := true, apart := false }
def StripTurnedSaid : Prop := stripTurnedRow.holds Try.pinned (OpenSpec.ofChange stripTurnedSpec)

/-- ITS FALSE NEIGHBOUR: 'it returns false'. Refute it at one input. -/
def stripTurnedWrong : ChangeSpec := { name := "stripTurned", fn := fun _ => fun
  | [d1, d2, d3] => { results := [.lit (.bool false)], args := [d1, d2, d3] }
  | _ => none }
def StripTurnedWrongFalsely : Prop := stripTurnedRow.holds Try.pinned (OpenSpec.ofChange stripTurnedWrong)

/-- 'muslinlaw12.StripFits': WHATEVER THE INPUT: true; the input reads as it did. -/
def stripFitsSpec : ChangeSpec := { name := "stripFits", fn := fun _ => fun
  | [d1, d2] => { results := [.lit (.bool true)], args := [d1, d2] }
  | _ => none }
def stripFitsRow : OpenClaim := { program := "ytbnflbkaogpnbaa", sum := "a389a0cd7f338fe78bd38961e22d6db1e6764c4efd38ffa720f6ba0c29b780f0", func := "muslin/muslinlaw12.StripFits", spec := "stripFits", unfollowed := true, recurses := true, apart := false }
def StripFitsSaid : Prop := stripFitsRow.holds Try.pinned (OpenSpec.ofChange stripFitsSpec)

/-- ITS FALSE NEIGHBOUR: 'it returns false'. Refute it at one input. -/
def stripFitsWrong : ChangeSpec := { name := "stripFits", fn := fun _ => fun
  | [d1, d2] => { results := [.lit (.bool false)], args := [d1, d2] }
  | _ => none }
def StripFitsWrongFalsely : Prop := stripFitsRow.holds Try.pinned (OpenSpec.ofChange stripFitsWrong)

/-- 'muslinlaw12.StripKeeps': WHATEVER THE INPUT: true; the input reads as it did. -/
def stripKeepsSpec : ChangeSpec := { name := "stripKeeps", fn := fun _ => fun
  | [d1, d2, d3] => { results := [.lit (.bool true)], args := [d1, d2, d3] }
  | _ => none }
def stripKeepsRow : OpenClaim := { program := "ytbnflbkaogpnbaa", sum := "a389a0cd7f338fe78bd38961e22d6db1e6764c4efd38ffa720f6ba0c29b780f0", func := "muslin/muslinlaw12.StripKeeps", spec := "stripKeeps", unfollowed := true, recurses := true, apart := false }
def StripKeepsSaid : Prop := stripKeepsRow.holds Try.pinned (OpenSpec.ofChange stripKeepsSpec)

/-- ITS FALSE NEIGHBOUR: 'it returns false'. Refute it at one input. -/
def stripKeepsWrong : ChangeSpec := { name := "stripKeeps", fn := fun _ => fun
  | [d1, d2, d3] => { results := [.lit (.bool false)], args := [d1, d2, d3] }
  | _ => none }
def StripKeepsWrongFalsely : Prop := stripKeepsRow.holds Try.pinned (OpenSpec.ofChange stripKeepsWrong)

/-- 'muslinlaw12.StripKnown': WHATEVER THE INPUT: true; the input reads as it did. -/
def stripKnownSpec : ChangeSpec := { name := "stripKnown", fn := fun _ => fun
  | [] => { results := [.lit (.bool true)], args := [] }
  | _ => none }
def stripKnownRow : OpenClaim := { program := "ytbnflbkaogpnbaa", sum := "a389a0cd7f338fe78bd38961e22d6db1e6764c4efd38ffa720f6ba0c29b780f0", func := "muslin/muslinlaw12.StripKnown", spec := "stripKnown", unfollowed := true, recurses := true, apart := false }
def StripKnownSaid : Prop := stripKnownRow.holds Try.pinned (OpenSpec.ofChange stripKnownSpec)

/-- ITS FALSE NEIGHBOUR: 'it returns false'. Refute it at one input. -/
def stripKnownWrong : ChangeSpec := { name := "stripKnown", fn := fun _ => fun
  | [] => { results := [.lit (.bool false)], args := [] }
  | _ => none }
def StripKnownWrongFalsely : Prop := stripKnownRow.holds Try.pinned (OpenSpec.ofChange stripKnownWrong)

/-- 'muslinlaw11.SlotsTwo': WHATEVER THE INPUT: true; the input reads as it did. -/
def slotsTwoSpec : ChangeSpec := { name := "slotsTwo", fn := fun _ => fun
  | [d] => { results := [.lit (.bool true)], args := [d] }
  | _ => none }
def slotsTwoRow : OpenClaim := { program := "ytbnflbkaogpnbaa", sum := "a389a0cd7f338fe78bd38961e22d6db1e6764c4efd38ffa720f6ba0c29b780f0", func := "muslin/muslinlaw11.SlotsTwo", spec := "slotsTwo", inPlace := ["internal/bytealg.Count", "internal/bytealg.IndexByte", "internal/bytealg.Index"], unfollowed := true, recurses := true, named := ["internal/bytealg.MaxLen"], apart := false }
def SlotsTwoSaid : Prop := slotsTwoRow.holds Try.pinned (OpenSpec.ofChange slotsTwoSpec)

/-- ITS FALSE NEIGHBOUR: 'it returns false'. Refute it at one input. -/
def slotsTwoWrong : ChangeSpec := { name := "slotsTwo", fn := fun _ => fun
  | [d] => { results := [.lit (.bool false)], args := [d] }
  | _ => none }
def SlotsTwoWrongFalsely : Prop := slotsTwoRow.holds Try.pinned (OpenSpec.ofChange slotsTwoWrong)

/-- 'muslinlaw11.SlotsKeep': WHATEVER THE INPUT: true; the input reads as it did. -/
def slotsKeepSpec : ChangeSpec := { name := "slotsKeep", fn := fun _ => fun
  | [d] => { results := [.lit (.bool true)], args := [d] }
  | _ => none }
def slotsKeepRow : OpenClaim := { program := "ytbnflbkaogpnbaa", sum := "a389a0cd7f338fe78bd38961e22d6db1e6764c4efd38ffa720f6ba0c29b780f0", func := "muslin/muslinlaw11.SlotsKeep", spec := "slotsKeep", inPlace := ["internal/bytealg.Count", "internal/bytealg.IndexByte", "internal/bytealg.Index"], unfollowed := true, recurses := true, named := ["internal/bytealg.MaxLen"], apart := false }
def SlotsKeepSaid : Prop := slotsKeepRow.holds Try.pinned (OpenSpec.ofChange slotsKeepSpec)

/-- ITS FALSE NEIGHBOUR: 'it returns false'. Refute it at one input. -/
def slotsKeepWrong : ChangeSpec := { name := "slotsKeep", fn := fun _ => fun
  | [d] => { results := [.lit (.bool false)], args := [d] }
  | _ => none }
def SlotsKeepWrongFalsely : Prop := slotsKeepRow.holds Try.pinned (OpenSpec.ofChange slotsKeepWrong)

/-- 'muslinlaw11.SlotsKnown': WHATEVER THE INPUT: true; the input reads as it did. -/
def slotsKnownSpec : ChangeSpec := { name := "slotsKnown", fn := fun _ => fun
  | [] => { results := [.lit (.bool true)], args := [] }
  | _ => none }
def slotsKnownRow : OpenClaim := { program := "ytbnflbkaogpnbaa", sum := "a389a0cd7f338fe78bd38961e22d6db1e6764c4efd38ffa720f6ba0c29b780f0", func := "muslin/muslinlaw11.SlotsKnown", spec := "slotsKnown", inPlace := ["internal/bytealg.Count", "internal/bytealg.IndexByte", "internal/bytealg.Index"], unfollowed := true, recurses := true, named := ["internal/bytealg.MaxLen"], apart := false }
def SlotsKnownSaid : Prop := slotsKnownRow.holds Try.pinned (OpenSpec.ofChange slotsKnownSpec)

/-- ITS FALSE NEIGHBOUR: 'it returns false'. Refute it at one input. -/
def slotsKnownWrong : ChangeSpec := { name := "slotsKnown", fn := fun _ => fun
  | [] => { results := [.lit (.bool false)], args := [] }
  | _ => none }
def SlotsKnownWrongFalsely : Prop := slotsKnownRow.holds Try.pinned (OpenSpec.ofChange slotsKnownWrong)

/-- 'muslinlaw13.SpoolList': WHATEVER THE INPUT: true; the input reads as it did. -/
def spoolListSpec : ChangeSpec := { name := "spoolList", fn := fun _ => fun
  | [d] => { results := [.lit (.bool true)], args := [d] }
  | _ => none }
def spoolListRow : OpenClaim := { program := "ytbnflbkaogpnbaa", sum := "a389a0cd7f338fe78bd38961e22d6db1e6764c4efd38ffa720f6ba0c29b780f0", func := "muslin/muslinlaw13.SpoolList", spec := "spoolList", inPlace := ["internal/bytealg.Count", "internal/bytealg.IndexByte", "internal/bytealg.Index"], unfollowed := true, recurses := true, named := ["internal/bytealg.MaxLen"], apart := false }
def SpoolListSaid : Prop := spoolListRow.holds Try.pinned (OpenSpec.ofChange spoolListSpec)

/-- ITS FALSE NEIGHBOUR: 'it returns false'. Refute it at one input. -/
def spoolListWrong : ChangeSpec := { name := "spoolList", fn := fun _ => fun
  | [d] => { results := [.lit (.bool false)], args := [d] }
  | _ => none }
def SpoolListWrongFalsely : Prop := spoolListRow.holds Try.pinned (OpenSpec.ofChange spoolListWrong)

/-- 'muslinlaw13.SpoolRefused': WHATEVER THE INPUT: true; the input reads as it did. -/
def spoolRefusedSpec : ChangeSpec := { name := "spoolRefused", fn := fun _ => fun
  | [d1, d2, d3] => { results := [.lit (.bool true)], args := [d1, d2, d3] }
  | _ => none }
def spoolRefusedRow : OpenClaim := { program := "ytbnflbkaogpnbaa", sum := "a389a0cd7f338fe78bd38961e22d6db1e6764c4efd38ffa720f6ba0c29b780f0", func := "muslin/muslinlaw13.SpoolRefused", spec := "spoolRefused", inPlace := ["internal/bytealg.Count", "internal/bytealg.IndexByte", "internal/bytealg.Index"], unfollowed := true, recurses := true, named := ["internal/bytealg.MaxLen"], apart := false }
def SpoolRefusedSaid : Prop := spoolRefusedRow.holds Try.pinned (OpenSpec.ofChange spoolRefusedSpec)

/-- ITS FALSE NEIGHBOUR: 'it returns false'. Refute it at one input. -/
def spoolRefusedWrong : ChangeSpec := { name := "spoolRefused", fn := fun _ => fun
  | [d1, d2, d3] => { results := [.lit (.bool false)], args := [d1, d2, d3] }
  | _ => none }
def SpoolRefusedWrongFalsely : Prop := spoolRefusedRow.holds Try.pinned (OpenSpec.ofChange spoolRefusedWrong)

/-- 'muslinlaw13.SpoolKeeps': WHATEVER THE INPUT: true; the input reads as it did. -/
def spoolKeepsSpec : ChangeSpec := { name := "spoolKeeps", fn := fun _ => fun
  | [d] => { results := [.lit (.bool true)], args := [d] }
  | _ => none }
def spoolKeepsRow : OpenClaim := { program := "ytbnflbkaogpnbaa", sum := "a389a0cd7f338fe78bd38961e22d6db1e6764c4efd38ffa720f6ba0c29b780f0", func := "muslin/muslinlaw13.SpoolKeeps", spec := "spoolKeeps", inPlace := ["internal/bytealg.Count", "internal/bytealg.IndexByte", "internal/bytealg.Index"], unfollowed := true, recurses := true, named := ["internal/bytealg.MaxLen"], apart := false }
def SpoolKeepsSaid : Prop := spoolKeepsRow.holds Try.pinned (OpenSpec.ofChange spoolKeepsSpec)

/-- ITS FALSE NEIGHBOUR: 'it returns false'. Refute it at one input. -/
def spoolKeepsWrong : ChangeSpec := { name := "spoolKeeps", fn := fun _ => fun
  | [d] => { results := [.lit (.bool false)], args := [d] }
  | _ => none }
def SpoolKeepsWrongFalsely : Prop := spoolKeepsRow.holds Try.pinned (OpenSpec.ofChange spoolKeepsWrong)

/- THE SECOND FORM. 'bulk': how many values and letters a reading holds, each counted each time it is reached (what is shared counts as often as it is met; a slice's spare places count too). A statement '..UptoSaid' is the law's where the arguments, and the package variables that the reading takes, are together of bulk at most 1048576: NARROWER than '..Said'. Prove '..Said' where nothing that the law and all that it calls make is longer than what came in: it says more and counts as full. Else prove '..UptoSaid'. A law counts once. -/
mutual
def uptoBulk {H : Type} : DataW H → Nat
  | .lit (.string bytes) => bytes.length + 1
  | .lit _ => 1
  | .nil => 1
  | .ptr d => uptoBulk d + 1
  | .slice elems spare => uptoBulkAll elems + uptoBulkAll spare + 1
  | .agg parts => uptoBulkAll parts + 1
  | .iface _ d => uptoBulk d + 1
  | .map entries => uptoBulkEntries entries + 1
  | .held _ => 1
def uptoBulkAll {H : Type} : List (DataW H) → Nat
  | [] => 0
  | d :: r => uptoBulk d + uptoBulkAll r
def uptoBulkEntries {H : Type} : List (Lit × DataW H) → Nat
  | [] => 0
  | x :: r => uptoBulkEntry x + uptoBulkEntries r
def uptoBulkEntry {H : Type} : Lit × DataW H → Nat
  | (.string bytes, d) => bytes.length + uptoBulk d + 1
  | (_, d) => uptoBulk d + 1
 end
def uptoSmall : (H : Type) → List (DataW H) → Bool := fun _ ds => decide (uptoBulkAll ds ≤ 1048576)
def OpenSpec.upto (s : _root_.Go.ChangeSpec) : _root_.Go.OpenSpec := { _root_.Go.OpenSpec.ofChange s with cond := some uptoSmall }

/-- 'muslinlaw10.SectorKeeps', WHERE WHAT IT READS IS OF BULK AT MOST 1048576: true; the input reads as it did. -/
def sectorKeepsUptoRow : OpenClaim := { program := "ytbnflbkaogpnbaa", sum := "a389a0cd7f338fe78bd38961e22d6db1e6764c4efd38ffa720f6ba0c29b780f0", func := "muslin/muslinlaw10.SectorKeeps", spec := "sectorKeeps", unfollowed := true, recurses := true, apart := false, narrowed := true }
def SectorKeepsUptoSaid : Prop := sectorKeepsUptoRow.holds Try.pinned (OpenSpec.upto sectorKeepsSpec)

/-- 'muslinlaw10.SectorAlone', WHERE WHAT IT READS IS OF BULK AT MOST 1048576: true; the input reads as it did. -/
def sectorAloneUptoRow : OpenClaim := { program := "ytbnflbkaogpnbaa", sum := "a389a0cd7f338fe78bd38961e22d6db1e6764c4efd38ffa720f6ba0c29b780f0", func := "muslin/muslinlaw10.SectorAlone", spec := "sectorAlone", unfollowed := true, recurses := true, apart := false, narrowed := true }
def SectorAloneUptoSaid : Prop := sectorAloneUptoRow.holds Try.pinned (OpenSpec.upto sectorAloneSpec)

/-- 'muslinlaw10.SectorRefuses', WHERE WHAT IT READS IS OF BULK AT MOST 1048576: true; the input reads as it did. -/
def sectorRefusesUptoRow : OpenClaim := { program := "ytbnflbkaogpnbaa", sum := "a389a0cd7f338fe78bd38961e22d6db1e6764c4efd38ffa720f6ba0c29b780f0", func := "muslin/muslinlaw10.SectorRefuses", spec := "sectorRefuses", unfollowed := true, recurses := true, apart := false, narrowed := true }
def SectorRefusesUptoSaid : Prop := sectorRefusesUptoRow.holds Try.pinned (OpenSpec.upto sectorRefusesSpec)

/-- 'muslinlaw10.SectorFails', WHERE WHAT IT READS IS OF BULK AT MOST 1048576: true; the input reads as it did. -/
def sectorFailsUptoRow : OpenClaim := { program := "ytbnflbkaogpnbaa", sum := "a389a0cd7f338fe78bd38961e22d6db1e6764c4efd38ffa720f6ba0c29b780f0", func := "muslin/muslinlaw10.SectorFails", spec := "sectorFails", unfollowed := true, recurses := true, apart := false, narrowed := true }
def SectorFailsUptoSaid : Prop := sectorFailsUptoRow.holds Try.pinned (OpenSpec.upto sectorFailsSpec)

/-- 'muslinlaw10.SectorDoes', WHERE WHAT IT READS IS OF BULK AT MOST 1048576: true; the input reads as it did. -/
def sectorDoesUptoRow : OpenClaim := { program := "ytbnflbkaogpnbaa", sum := "a389a0cd7f338fe78bd38961e22d6db1e6764c4efd38ffa720f6ba0c29b780f0", func := "muslin/muslinlaw10.SectorDoes", spec := "sectorDoes", unfollowed := true, recurses := true, apart := false, narrowed := true }
def SectorDoesUptoSaid : Prop := sectorDoesUptoRow.holds Try.pinned (OpenSpec.upto sectorDoesSpec)

/-- 'muslinlaw10.SectorKnown', WHERE WHAT IT READS IS OF BULK AT MOST 1048576: true; the input reads as it did. -/
def sectorKnownUptoRow : OpenClaim := { program := "ytbnflbkaogpnbaa", sum := "a389a0cd7f338fe78bd38961e22d6db1e6764c4efd38ffa720f6ba0c29b780f0", func := "muslin/muslinlaw10.SectorKnown", spec := "sectorKnown", unfollowed := true, recurses := true, apart := false, narrowed := true }
def SectorKnownUptoSaid : Prop := sectorKnownUptoRow.holds Try.pinned (OpenSpec.upto sectorKnownSpec)

/-- 'muslinlaw12.StripSizes', WHERE WHAT IT READS IS OF BULK AT MOST 1048576: true; the input reads as it did. -/
def stripSizesUptoRow : OpenClaim := { program := "ytbnflbkaogpnbaa", sum := "a389a0cd7f338fe78bd38961e22d6db1e6764c4efd38ffa720f6ba0c29b780f0", func := "muslin/muslinlaw12.StripSizes", spec := "stripSizes", unfollowed := true, recurses := true, apart := false, narrowed := true }
def StripSizesUptoSaid : Prop := stripSizesUptoRow.holds Try.pinned (OpenSpec.upto stripSizesSpec)

/-- 'muslinlaw12.StripBack', WHERE WHAT IT READS IS OF BULK AT MOST 1048576: true; the input reads as it did. -/
def stripBackUptoRow : OpenClaim := { program := "ytbnflbkaogpnbaa", sum := "a389a0cd7f338fe78bd38961e22d6db1e6764c4efd38ffa720f6ba0c29b780f0", func := "muslin/muslinlaw12.StripBack", spec := "stripBack", unfollowed := true, recurses := true, apart := false, narrowed := true }
def StripBackUptoSaid : Prop := stripBackUptoRow.holds Try.pinned (OpenSpec.upto stripBackSpec)

/-- 'muslinlaw12.StripTurned', WHERE WHAT IT READS IS OF BULK AT MOST 1048576: true; the input reads as it did. -/
def stripTurnedUptoRow : OpenClaim := { program := "ytbnflbkaogpnbaa", sum := "a389a0cd7f338fe78bd38961e22d6db1e6764c4efd38ffa720f6ba0c29b780f0", func := "muslin/muslinlaw12.StripTurned", spec := "stripTurned", unfollowed := true, recurses := true, apart := false, narrowed := true }
def StripTurnedUptoSaid : Prop := stripTurnedUptoRow.holds Try.pinned (OpenSpec.upto stripTurnedSpec)

/-- 'muslinlaw12.StripFits', WHERE WHAT IT READS IS OF BULK AT MOST 1048576: true; the input reads as it did. -/
def stripFitsUptoRow : OpenClaim := { program := "ytbnflbkaogpnbaa", sum := "a389a0cd7f338fe78bd38961e22d6db1e6764c4efd38ffa720f6ba0c29b780f0", func := "muslin/muslinlaw12.StripFits", spec := "stripFits", unfollowed := true, recurses := true, apart := false, narrowed := true }
def StripFitsUptoSaid : Prop := stripFitsUptoRow.holds Try.pinned (OpenSpec.upto stripFitsSpec)

/-- 'muslinlaw12.StripKeeps', WHERE WHAT IT READS IS OF BULK AT MOST 1048576: true; the input reads as it did. -/
def stripKeepsUptoRow : OpenClaim := { program := "ytbnflbkaogpnbaa", sum := "a389a0cd7f338fe78bd38961e22d6db1e6764c4efd38ffa720f6ba0c29b780f0", func := "muslin/muslinlaw12.StripKeeps", spec := "stripKeeps", unfollowed := true, recurses := true, apart := false, narrowed := true }
def StripKeepsUptoSaid : Prop := stripKeepsUptoRow.holds Try.pinned (OpenSpec.upto stripKeepsSpec)

/-- 'muslinlaw12.StripKnown', WHERE WHAT IT READS IS OF BULK AT MOST 1048576: true; the input reads as it did. -/
def stripKnownUptoRow : OpenClaim := { program := "ytbnflbkaogpnbaa", sum := "a389a0cd7f338fe78bd38961e22d6db1e6764c4efd38ffa720f6ba0c29b780f0", func := "muslin/muslinlaw12.StripKnown", spec := "stripKnown", unfollowed := true, recurses := true, apart := false, narrowed := true }
def StripKnownUptoSaid : Prop := stripKnownUptoRow.holds Try.pinned (OpenSpec.upto stripKnownSpec)

/-- 'muslinlaw11.SlotsTwo', WHERE WHAT IT READS IS OF BULK AT MOST 1048576: true; the input reads as it did. -/
def slotsTwoUptoRow : OpenClaim := { program := "ytbnflbkaogpnbaa", sum := "a389a0cd7f338fe78bd38961e22d6db1e6764c4efd38ffa720f6ba0c29b780f0", func := "muslin/muslinlaw11.SlotsTwo", spec := "slotsTwo", inPlace := ["internal/bytealg.Count", "internal/bytealg.IndexByte", "internal/bytealg.Index"], unfollowed := true, recurses := true, named := ["internal/bytealg.MaxLen"], apart := false, narrowed := true }
def SlotsTwoUptoSaid : Prop := slotsTwoUptoRow.holds Try.pinned (OpenSpec.upto slotsTwoSpec)

/-- 'muslinlaw11.SlotsKeep', WHERE WHAT IT READS IS OF BULK AT MOST 1048576: true; the input reads as it did. -/
def slotsKeepUptoRow : OpenClaim := { program := "ytbnflbkaogpnbaa", sum := "a389a0cd7f338fe78bd38961e22d6db1e6764c4efd38ffa720f6ba0c29b780f0", func := "muslin/muslinlaw11.SlotsKeep", spec := "slotsKeep", inPlace := ["internal/bytealg.Count", "internal/bytealg.IndexByte", "internal/bytealg.Index"], unfollowed := true, recurses := true, named := ["internal/bytealg.MaxLen"], apart := false, narrowed := true }
def SlotsKeepUptoSaid : Prop := slotsKeepUptoRow.holds Try.pinned (OpenSpec.upto slotsKeepSpec)

/-- 'muslinlaw11.SlotsKnown', WHERE WHAT IT READS IS OF BULK AT MOST 1048576: true; the input reads as it did. -/
def slotsKnownUptoRow : OpenClaim := { program := "ytbnflbkaogpnbaa", sum := "a389a0cd7f338fe78bd38961e22d6db1e6764c4efd38ffa720f6ba0c29b780f0", func := "muslin/muslinlaw11.SlotsKnown", spec := "slotsKnown", inPlace := ["internal/bytealg.Count", "internal/bytealg.IndexByte", "internal/bytealg.Index"], unfollowed := true, recurses := true, named := ["internal/bytealg.MaxLen"], apart := false, narrowed := true }
def SlotsKnownUptoSaid : Prop := slotsKnownUptoRow.holds Try.pinned (OpenSpec.upto slotsKnownSpec)

/-- 'muslinlaw13.SpoolList', WHERE WHAT IT READS IS OF BULK AT MOST 1048576: true; the input reads as it did. -/
def spoolListUptoRow : OpenClaim := { program := "ytbnflbkaogpnbaa", sum := "a389a0cd7f338fe78bd38961e22d6db1e6764c4efd38ffa720f6ba0c29b780f0", func := "muslin/muslinlaw13.SpoolList", spec := "spoolList", inPlace := ["internal/bytealg.Count", "internal/bytealg.IndexByte", "internal/bytealg.Index"], unfollowed := true, recurses := true, named := ["internal/bytealg.MaxLen"], apart := false, narrowed := true }
def SpoolListUptoSaid : Prop := spoolListUptoRow.holds Try.pinned (OpenSpec.upto spoolListSpec)

/-- 'muslinlaw13.SpoolRefused', WHERE WHAT IT READS IS OF BULK AT MOST 1048576: true; the input reads as it did. -/
def spoolRefusedUptoRow : OpenClaim := { program := "ytbnflbkaogpnbaa", sum := "a389a0cd7f338fe78bd38961e22d6db1e6764c4efd38ffa720f6ba0c29b780f0", func := "muslin/muslinlaw13.SpoolRefused", spec := "spoolRefused", inPlace := ["internal/bytealg.Count", "internal/bytealg.IndexByte", "internal/bytealg.Index"], unfollowed := true, recurses := true, named := ["internal/bytealg.MaxLen"], apart := false, narrowed := true }
def SpoolRefusedUptoSaid : Prop := spoolRefusedUptoRow.holds Try.pinned (OpenSpec.upto spoolRefusedSpec)

/-- 'muslinlaw13.SpoolKeeps', WHERE WHAT IT READS IS OF BULK AT MOST 1048576: true; the input reads as it did. -/
def spoolKeepsUptoRow : OpenClaim := { program := "ytbnflbkaogpnbaa", sum := "a389a0cd7f338fe78bd38961e22d6db1e6764c4efd38ffa720f6ba0c29b780f0", func := "muslin/muslinlaw13.SpoolKeeps", spec := "spoolKeeps", inPlace := ["internal/bytealg.Count", "internal/bytealg.IndexByte", "internal/bytealg.Index"], unfollowed := true, recurses := true, named := ["internal/bytealg.MaxLen"], apart := false, narrowed := true }
def SpoolKeepsUptoSaid : Prop := spoolKeepsUptoRow.holds Try.pinned (OpenSpec.upto spoolKeepsSpec)

end Rows
end Go.Proofs.Ytbnflbkaogpnbaa
