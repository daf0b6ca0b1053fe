/- The statement SpoolKnownSaid: for every input muslin's law SpoolKnown answers true, and its arguments read as before. Conditions: none. -/
import Derived.Test.YtbnflbkaogpnbaaGreatRows
import Derived.Deep.Fields
import Derived.Deep.Slices
import Derived.OpenShut
import Derived.ProofKit
import Derived.SizedLaws
import Derived.Test.YtbnflbkaogpnbaaGreatPAD
import Derived.Test.YtbnflbkaogpnbaaGreatPBN
import Derived.Test.YtbnflbkaogpnbaaGreatJZ
import Derived.ChangeOld
namespace Go.Proofs.YtbnflbkaogpnbaaGreat.spoolKnown
open Go.ChangeShapes Go.WideShapes Go.ChangeAt Go.RowKit
set_option linter.unusedVariables false

theorem own : ownKnob Tryz.prog.godebug = none := jf_own
theorem laidOut : laidOutB Tryz.prog = true := jf_laidOut

set_option maxRecDepth 100000 in
theorem lifted (os : Os) (started : os.Started) (H : Type) (enc : TypeId × Value → H) :
    ReturnsInHanded {} Tryz.checked os 3 .any (Rows.spoolKnownSpec.pre6 enc Tryz.prog Tryz.f3 Rows.spoolKnownRow.domain false) (Rows.spoolKnownSpec.post enc Tryz.prog Tryz.f3 false true false false) := by
  refine returnsInHanded_of_change_sized (C := Tryz.checked) own started (by kernel_rfl) Tryz.func3
    (ChangeSpec.witness6 (enc := enc) (C := Tryz.checked) false ⟨#[], #[], []⟩ 8 (by kernel_rfl) (by kernel_rfl) (by kernel_rfl) (by kernel_rfl)) ?_
  intro W base args ds gs before hval0 hW hcnd hsz0 _
  have hsz : (DataW.weightsEach Tryz.prog (Tryz.f3.params.toList ++ Rows.spoolKnownSpec.plain.varTypes Tryz.prog) (ds ++ gs)).all (· ≤ reachBytes) = true := hsz0
  clear hsz0
  have hval : ∀ (j : Nat) t v, Tryz.f3.params[j]? = some t → args[j]? = some v → Value.okWide Tryz.prog W .any base t v := hval0
  have hW' := hW
  obtain ⟨p, q, hA0, hV, rfl, hfz, hnd⟩ := hW
  have hA : DataW.TrodAll enc Tryz.prog W 0 (fun _ => true) true Tryz.f3.params.toList args.toList ds p := hA0
  rw [Tryz.params3] at hA hval hsz
  obtain ⟨hargs, rfl, rfl⟩ := trodAll_nil hA
  obtain rfl : args = #[] := by cases args; simp_all
  obtain ⟨rfl, rfl⟩ := trodVars_none hV
  clear hA0 hval0
  refine (spoolKnown_walk W).mono fun e W' ⟨he, hkept⟩ => ?_
  subst he
  have bel : Below W.heap.size W W' := hkept.below (Nat.le_refl _) (by simp)
  exact ⟨_, rfl, _, _, _, [], _, [], hW', trodAll_mk1 (shut_bool Tryz.underlying4 _), trodAll_mk0, rfl, bel.frame _, fun h => by cases h⟩

theorem closed : joinedFacts Tryz.pinned.checked.prog 3 Tryz.f3 Rows.spoolKnownSpec Rows.spoolKnownRow = true := by
  unfold joinedFacts
  rw [jf_laid, jf_rowed, jf_stops, jf_knobs, jf_heard, jf_enter, jf_lifts, jf_make]
  kernel_rfl

theorem over : Rows.spoolKnownRow.holds Tryz.pinned (OpenSpec.ofChange Rows.spoolKnownSpec) :=
  OpenClaim.holds_of_wide 3 Tryz.f3 rfl rfl rfl rfl rfl rfl rfl ⟨rfl, rfl, rfl, rfl, rfl⟩ rfl rfl rfl rfl rfl (by kernel_rfl) Tryz.func3 closed
    (of_decide_eq_true (by kernel_rfl)) (by unfold Func.isWrapper; first | (rw [if_pos (by decide +kernel)]; kernel_rfl) | (rw [if_neg (by decide +kernel)]; exact ⟨rfl, rfl⟩))
    (fun os started H enc _ => lifted os started H enc)

/-- The statement. -/
theorem proved : Rows.SpoolKnownSaid := over
#print axioms proved
end Go.Proofs.YtbnflbkaogpnbaaGreat.spoolKnown
