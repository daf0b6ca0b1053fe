/- The statement SlotsKnownSaid: for every input muslin's law SlotsKnown answers true, and its arguments read as before. Conditions: none. -/
import Derived.Test.YtbnflbkaogpnbaaRows
import Derived.Test.YtbnflbkaogpnbaaRA
import Derived.Test.YtbnflbkaogpnbaaGD
import Derived.Test.YtbnflbkaogpnbaaJF
import Derived.ProofKit
import Derived.OpenShut
import Derived.ChangeOld
import Derived.SizedLaws
namespace Go.Proofs.Ytbnflbkaogpnbaa.slotsKnown
open Go.ChangeShapes Go.WideShapes Go.ChangeAt Go.RowKit
set_option linter.unusedVariables false

theorem own : ownKnob Try.prog.godebug = none := jf_own
theorem laidOut : laidOutB Try.prog = true := jf_laidOut

set_option maxRecDepth 100000 in
theorem lifted (os : Os) (started : os.Started) (H : Type) (enc : TypeId × Value → H) :
    ReturnsInHanded {} Try.checked os 17 .any (Rows.slotsKnownSpec.pre6 enc Try.prog Try.f17 Rows.slotsKnownRow.domain false) (Rows.slotsKnownSpec.post enc Try.prog Try.f17 false true false false) := by
  refine returnsInHanded_of_change_sized (C := Try.checked) own started (by kernel_rfl) Try.func17
    (ChangeSpec.witness6 (enc := enc) (C := Try.checked) false ⟨#[], #[], []⟩ 8 (by kernel_rfl) (by kernel_rfl) (by kernel_rfl) (by kernel_rfl)) ?_
  intro W base args ds gs before hval0 hW hcnd hsz0 _
  have hsz : (DataW.weightsEach Try.prog (Try.f17.params.toList ++ Rows.slotsKnownSpec.plain.varTypes Try.prog) (ds ++ gs)).all (· ≤ reachBytes) = true := hsz0
  clear hsz0
  have hval : ∀ (j : Nat) t v, Try.f17.params[j]? = some t → args[j]? = some v → Value.okWide Try.prog W .any base t v := hval0
  have hW' := hW
  obtain ⟨p, q, hA0, hV, rfl, hfz, hnd⟩ := hW
  have hA : DataW.TrodAll enc Try.prog W 0 (fun _ => true) true Try.f17.params.toList args.toList ds p := hA0
  rw [Try.params17] at hA hval hsz
  obtain ⟨hargs, rfl, rfl⟩ := trodAll_nil hA
  obtain rfl : args = #[] := by cases args; simp_all
  obtain ⟨rfl, rfl⟩ := trodVars_none hV
  clear hA0 hval0
  refine (slotsKnown_walk W).mono fun e W' ⟨he, hkept⟩ => ?_
  subst he
  have bel : Below W.heap.size W W' := hkept.below (Nat.le_refl _) (by simp)
  exact ⟨_, rfl, _, _, _, [], _, [], hW', trodAll_mk1 (shut_bool Try.underlying4 _), trodAll_mk0, rfl, bel.frame _, fun h => by cases h⟩

theorem closed : joinedFacts Try.pinned.checked.prog 17 Try.f17 Rows.slotsKnownSpec Rows.slotsKnownRow = true := by
  unfold joinedFacts
  rw [jf_laid, jf_rowed, jf_stops, jf_knobs, jf_heard, jf_enter, jf_lifts, jf_make]
  kernel_rfl

theorem over : Rows.slotsKnownRow.holds Try.pinned (OpenSpec.ofChange Rows.slotsKnownSpec) :=
  OpenClaim.holds_of_wide 17 Try.f17 rfl rfl rfl rfl rfl rfl rfl ⟨rfl, rfl, rfl, rfl, rfl⟩ rfl rfl rfl rfl rfl (by kernel_rfl) Try.func17 closed
    (of_decide_eq_true (by kernel_rfl)) (by unfold Func.isWrapper; first | (rw [if_pos (by decide +kernel)]; kernel_rfl) | (rw [if_neg (by decide +kernel)]; exact ⟨rfl, rfl⟩))
    (fun os started H enc _ => lifted os started H enc)

/-- The statement. -/
theorem proved : Rows.SlotsKnownSaid := over
#print axioms proved
end Go.Proofs.Ytbnflbkaogpnbaa.slotsKnown
