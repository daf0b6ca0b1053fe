/- A region that is walked in the open, walked in a round of a range over a function. -/
import Derived.Test.YtbnflbkaogpnbaaV0
import Derived.OrdersHeld
import Derived.OrdersIn
import Derived.Deep.RegionHeld3
namespace Go.Proofs.Ytbnflbkaogpnbaa
open Go.RowKit

variable {P : Program} {ops : Array Oper} {Q : Exit → Act → World → Prop}

def noDefer (o : Oper) : Bool := match o.op with | .defer _ => false | _ => true

theorem noDefer_ne {o : Oper} (h : noDefer o = true) : ∀ c, o.op ≠ .defer c := fun c e => by
  unfold noDefer at h
  rw [e] at h
  cases h

theorem wpIn_of_wp {l n : Nat} {o : Oper} (hd : noDefer o = true) {K : Act → World → Prop} {a : Act} {w : World} (h : o.wp P a w K Q) : o.wpIn (Fence.wide.inRound l) n P a w K Q := by
  refine ⟨fun _ _ => trivial, ?_⟩
  rw [Oper.semAt_eq _ _ _ (noDefer_ne hd)]
  unfold Oper.wp at h
  generalize (execOp a.eval o).run P w = r at h
  have hde : ∀ {n : Nat}, (Fence.wide.inRound l).depth.isSome = true → 1 ≤ n := fun h => by cases h
  cases r with
  | ok x w' =>
    cases x with
    | enter f args => exact ⟨hde, CallsIn.inRound l (callsIn_wide.2 h)⟩
    | row r args => exact ⟨hde, fun c cs _ => by
        obtain ⟨v, w2, hr, hs⟩ := h c cs
        exact ⟨v, w2, hr, stepsIn_wide.2 hs⟩⟩
    | round _ _ _ _ _ => exact h.elim
    | _ => exact h
  | halt h0 w' => cases h0 <;> exact h

theorem wpOpIn_of_wpOp {l n i : Nat} (hd : ops.all noDefer = true) (hQ : ¬ LetsOut Q) {K K' : Act → World → Prop} (hK : ∀ a w, K a w → K' a w) {a : Act} {w : World} (h : wpOp P ops Q i K a w) : wpOpIn (Fence.wide.inRound l) n P ops Q i K' a w := by
  unfold wpOp at h
  unfold wpOpIn
  cases ho : ops[i]? with
  | none => rw [ho] at h; exact hK _ _ h
  | some o =>
    rw [ho] at h
    have hdo : noDefer o = true := Array.all_eq_true_iff_forall_mem.1 hd o (Array.mem_of_getElem? ho)
    simp only at h ⊢
    split at h
    · rename_i hw
      rw [if_pos hw]
      rcases h with h | h
      · exact wpIn_of_wp hdo (Oper.wp_mono hK h)
      · exact absurd h.2 hQ
    · rename_i hw
      rw [if_neg hw]
      exact ⟨fun _ _ => trivial, hK _ _ h⟩

theorem wpAnyIn_of_held {l n : Nat} {md : Region.Mode} {S : World → Prop} (hd : ops.all noDefer = true) (hQ : ¬ LetsOut Q) : ∀ (fuel : Nat) (listed : Array Bool) (a : Act) (w : World), wpAnyH P md ops Q S fuel listed a w → wpAnyIn (Fence.wide.inRound l) n P md ops Q fuel listed a w
  | 0, _, _, _, h => h
  | fuel + 1, _, _, _, h => ⟨h.1, fun i hi => wpOpIn_of_wpOp hd hQ (fun a w h => wpAnyIn_of_held hd hQ fuel _ a w h.2) (h.2 i hi)⟩

/-- A region that draws its order, in a round. -/
theorem wpIn_region_held {l n id : Nat} {S : World → Prop} {a : Act} {w : World} (hm : P.follows .mixedOrders = true) (hd : ops.all noDefer = true) (hQ : ¬ LetsOut Q) (hS : S w.drew)
    (h : S w.drew → wpAnyH P .any ops Q S ops.size (Array.replicate ops.size false) a w.drew) : (Code.region id ops true).wpIn (Fence.wide.inRound l) n P Q a w :=
  wpIn_region_any hm (wpAnyIn_of_held hd hQ _ _ _ _ (h hS))

/-- What is asked of a region that is left in no other way than off its end. -/
def calmQ (Q : Exit → Act → World → Prop) : Exit → Act → World → Prop
  | .normal, a, w => Q .normal a w
  | _, _, _ => False

theorem calm_out : ¬ LetsOut (calmQ Q) := fun ⟨_, _, h⟩ => h

theorem wp_region_calm {id : Nat} {S : World → Prop} {a : Act} {w : World} (hm : P.follows .mixedOrders = true) (hS : S w.drew)
    (h : S w.drew → wpAnyH P .any ops (calmQ Q) S ops.size (Array.replicate ops.size false) a w.drew) : (Code.region id ops true).wp P Q a w :=
  wp_mono (wp_region_held_drew hm hS h) (fun e a w hq => by cases e <;> first | exact hq | exact hq.elim)

theorem wpIn_region_calm {l n id : Nat} {S : World → Prop} {a : Act} {w : World} (hm : P.follows .mixedOrders = true) (hd : ops.all noDefer = true) (hS : S w.drew)
    (h : S w.drew → wpAnyH P .any ops (calmQ Q) S ops.size (Array.replicate ops.size false) a w.drew) : (Code.region id ops true).wpIn (Fence.wide.inRound l) n P Q a w :=
  wpIn_mono (wpIn_region_held hm hd calm_out hS h) (fun e a w hq => by cases e <;> first | exact hq | exact hq.elim)

theorem wpAnyH_calm {md : Region.Mode} {S : World → Prop} {listed : Array Bool} {a : Act} {w : World} (hr : Region.ready md ops listed = []) (h : Q .normal a w) : ∀ fuel, wpAnyH P md ops (calmQ Q) S fuel listed a w :=
  wpAnyH_done hr h

theorem wpListIn_of_wpList {l n : Nat} (hQ : ¬ LetsOut Q) : ∀ (rest : List Oper), (∀ o ∈ rest, noDefer o = true) → ∀ (a : Act) (w : World), wpList P ops Q rest a w → wpListIn (Fence.wide.inRound l) n P ops Q rest a w
  | [], _, _, _, h => h
  | o :: rest, hd, a, w, h => by
    have ih := wpListIn_of_wpList (l := l) (n := n) hQ rest (fun x hx => hd x (List.mem_cons_of_mem _ hx))
    unfold wpList at h
    unfold wpListIn
    split at h
    · rename_i hw
      rw [if_pos hw]
      rcases h with h | h
      · exact wpIn_of_wp (hd o List.mem_cons_self) (Oper.wp_mono (fun a w h => ih a w h) h)
      · exact absurd h.2 hQ
    · rename_i hw
      rw [if_neg hw]
      exact ⟨fun _ _ => trivial, ih _ _ h⟩

/-- A region that draws nothing, in a round, walked in the open. -/
theorem wpIn_region_open {l n id : Nat} {a : Act} {w : World} (hd : ops.all noDefer = true) (h : ∀ K : Act → World → Prop, (∀ a w, Q .normal a w → K a w) → wpList P ops (Exit.then K (fun _ _ _ => False)) ops.toList a w) :
    (Code.region id ops false).wpIn (Fence.wide.inRound l) n P Q a w :=
  wpIn_mono (wpIn_region_list (wpListIn_of_wpList (fun ⟨_, _, h⟩ => h) ops.toList (fun o ho => Array.all_eq_true_iff_forall_mem.1 hd o (by simpa using ho)) a w (h (Q .normal) (fun _ _ h => h)))) (fun e a w hq => by cases e <;> first | exact hq | exact hq.elim)
end Go.Proofs.Ytbnflbkaogpnbaa
