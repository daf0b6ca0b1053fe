/- The log on a calm device, in memory; opens. -/
import Derived.Test.YtbnflbkaogpnbaaI4
import Derived.Test.YtbnflbkaogpnbaaI3
namespace Go.Proofs.Ytbnflbkaogpnbaa
set_option linter.unusedVariables false
open Go.RowKit

/-- A log on a calm device, in memory: its place, its half, its records, those that are sure; bounds of its turn and its works. -/
def SpK (w0 w : World) (y a : Nat) (F : List Nat) (f each half : Nat) (now sure : List (List UInt8)) (N t W : Nat) : Prop :=
  ∃ s d, SpF w0 w y a F s d ∧ SpC s d now sure N t W ∧ s.half = half ∧ s.each = each ∧ s.first = f + 2 ∧ s.sl.first = f

/-- What a deed leaves of it. -/
def SpKPost (w0 w : World) (y a : Nat) (F : List Nat) (f each half : Nat) (now sure : List (List UInt8)) (N t W : Nat) (n : Int) (e : Ending) (w' : World) : Prop :=
  e = .returned (.int .i64 n) ∧ ∃ F', SpK w0 w' y a F' f each half now sure N t W ∧ Step F F' w w'

section
variable {w0 w : World} {y a : Nat} {F : List Nat} {f each half : Nat} {now sure : List (List UInt8)} {N t W : Nat}

theorem SpK.next (h : SpK w0 w y a F f each half now sure N t W) {w' : World} (hk : Kept [] w w') : SpK w0 w' y a F f each half now sure N t W := by
  obtain ⟨s, d, h1, h2⟩ := h
  exact ⟨s, d, h1.next hk, h2⟩

theorem SpK.kept (h : SpK w0 w y a F f each half now sure N t W) : Kept [] w0 w := by
  obtain ⟨s, d, h1, h2⟩ := h
  exact h1.kept
theorem SpK.low (h : SpK w0 w y a F f each half now sure N t W) : ∀ j ∈ F, w0.heap.size ≤ j := by
  obtain ⟨s, d, h1, h2⟩ := h
  exact h1.low
theorem SpK.lt (h : SpK w0 w y a F f each half now sure N t W) : ∀ j ∈ F, j < w.heap.size := by
  obtain ⟨s, d, h1, h2⟩ := h
  exact h1.at_.lt

/-- Beside a row of one's own that grows. -/
theorem SpK.row (h : SpK w0 w y a F f each half now sure N t W) {w' : World} {ty : TypeId} {v : Value} {n : Nat} {xs : List Value} (hr : RowIn w0.heap.size w ty F v n xs) (hk : Kept v.ownBlock.toList w w') : SpK w0 w' y a F f each half now sure N t W := by
  obtain ⟨s, d, h1, h2⟩ := h
  obtain ⟨zs, zt, fp, slp, stp, g1, g2⟩ := h1.at_.parts
  have hn : ∀ j ∈ F, j ∉ v.ownBlock.toList := fun j hj hm => hr.ne j (by simpa using hm) hj
  exact ⟨s, d, ⟨⟨⟨zs, zt, fp, slp, stp, g1.kept hk (hn _ (g2 _ (.inl rfl))) (fun j hj => hn _ (g2 _ (.inr (.inl hj)))) (fun j hj => hn _ (g2 _ (.inr (.inr (.inl hj))))) (fun j hj => hn _ (g2 _ (.inr (.inr (.inr hj))))), g2⟩, fun j hj => Nat.lt_of_lt_of_le (h1.at_.lt j hj) hk.size⟩, h1.low, h1.kept.trans' hk (fun j hj => .inr (hr.own.lt j (by simpa using hj)).1)⟩, h2⟩

theorem SpK.append (h : SpK w0 w y a F f each half now sure N t W) (hW : W < 1000000000) (hl : now.length < 1000000) (A : Option Addr) (n c : Nat) (b : List UInt8) (hb : SlAt w A n c (u8vs b)) (hA : A = none → c = 0) (hAy : ∀ p, A = some p → 0 < n → p.block ∉ F) (hbl : b.length ≤ 16384) (hr : (recs now).length + (b.length + 7) ≤ 128 * each) :
    Calls Try.prog 59 #[.pointer (some ⟨y, 0, none⟩), .slice A n c] w (SpKPost w0 w y a F f each half (now ++ [b]) sure N t (W + (b.length + 8)) 0) := by
  obtain ⟨s, d, h1, h2, rfl, rfl, h5, h6⟩ := h
  obtain ⟨f1, f2, f3⟩ := h2.fin
  obtain ⟨q, hq⟩ := h2.inv
  obtain ⟨s', d', e1, e2, e3, e4, e5, e6⟩ := h2.append hbl (by rw [f1]; exact hr)
  have hc := sp_append h1.at_ hq (by omega) A n c b hb hA hAy (by have := h2.works; omega)
  rw [e1] at hc
  refine hc.mono ?_
  rintro e w' ⟨rfl, F', g1, g2⟩
  exact ⟨rfl, F', ⟨s', d', h1.step g1 g2, e2, e3, e4, e5.trans h5, by rw [e6]; exact h6⟩, g2⟩

/-- There is no room. -/
theorem SpK.full (h : SpK w0 w y a F f each half now sure N t W) (hW : W < 1000000000) (hl : now.length < 1000000) (A : Option Addr) (n c : Nat) (b : List UInt8) (hb : SlAt w A n c (u8vs b)) (hA : A = none → c = 0) (hAy : ∀ p, A = some p → 0 < n → p.block ∉ F) (hbl : b.length ≤ 16384) (hr : 128 * each < (recs now).length + (b.length + 7)) :
    Calls Try.prog 59 #[.pointer (some ⟨y, 0, none⟩), .slice A n c] w (SpKPost w0 w y a F f each half now sure N t W 101) := by
  obtain ⟨s, d, h1, h2, rfl, rfl, h5, h6⟩ := h
  obtain ⟨f1, f2, f3⟩ := h2.fin
  obtain ⟨q, hq⟩ := h2.inv
  have e0 : s.st.append d b = (s.st, d, 101) := by unfold St.append; rw [if_neg (by omega), if_pos (by omega)]
  have e1 : s.append d b = (s, d, 101) := by
    unfold Sp.append
    rw [hq.wrongNo, e0]
    rfl
  have hc := sp_append h1.at_ hq (by omega) A n c b hb hA hAy (by have := h2.works; omega)
  rw [e1] at hc
  refine hc.mono ?_
  rintro e w' ⟨rfl, F', g1, g2⟩
  exact ⟨rfl, F', ⟨s, d, h1.step g1 g2, h2, rfl, rfl, h5, h6⟩, g2⟩

theorem SpK.flush (h : SpK w0 w y a F f each half now sure N t W) (hW : W < 1000000000) (hl : now.length < 1000000) (ht : t + 1 ≤ 1000000) :
    Calls Try.prog 60 #[.pointer (some ⟨y, 0, none⟩)] w (SpKPost w0 w y a F f each half now now N (t + 1) (W + 3) 0) := by
  obtain ⟨s, d, h1, h2, rfl, rfl, h5, h6⟩ := h
  obtain ⟨f1, f2, f3⟩ := h2.fin
  obtain ⟨q, hq⟩ := h2.inv
  obtain ⟨s', d', e1, e2, e3, e4, e5, e6⟩ := h2.flush ht
  have hc := sp_flush h1.at_ hq (by omega) (by have := h2.turn; omega) (by have := h2.works; omega)
  rw [e1] at hc
  refine hc.mono ?_
  rintro e w' ⟨rfl, F', g1, g2⟩
  exact ⟨rfl, F', ⟨s', d', h1.step g1 g2, e2, e3, e4, e5.trans h5, e6.trans h6⟩, g2⟩

theorem SpK.replace (h : SpK w0 w y a F f each half now sure N t W) (hW : W < 1000000000) (ht : t + 1 ≤ 1000000) (A : Option Addr) (n c : Nat) (ps : List Part) (hB : BytessAt w A n c ps) (hsm : Small (texts ps)) (hn : n ≤ 1000) (hA : ∀ p, A = some p → 0 < n → p.block ∉ F) (hps : ∀ q ∈ ps, ∀ p, q.A = some p → 0 < q.n → p.block ∉ F) (hr : allSize (texts ps) ≤ 128 * each) :
    Calls Try.prog 61 #[.pointer (some ⟨y, 0, none⟩), .slice A n c] w (SpKPost w0 w y a F f each (1 - half) (texts ps) (texts ps) N (t + 1) (W + 2 * allSize (texts ps) + 3) 0) := by
  obtain ⟨s, d, h1, h2, rfl, rfl, h5, h6⟩ := h
  obtain ⟨q, hq⟩ := h2.inv
  have hf := h2.fail; have ht2 := h2.till
  obtain ⟨s', d', e1, e2, e3, e4, e5, e6⟩ := h2.replace ht hsm hr
  have hc := sp_replace h1.at_ hq (by omega) (by omega) (by have := h2.turn; omega) (by have := h2.works; omega) A n c ps hB hsm hn hA hps
  rw [e1] at hc
  refine hc.mono ?_
  rintro e w' ⟨rfl, F', g1, g2⟩
  exact ⟨rfl, F', ⟨s', d', h1.step g1 g2, e2, e3, e4, e5.trans h5, e6.trans h6⟩, g2⟩

theorem SpK.great (h : SpK w0 w y a F f each half now sure N t W) (hW : W < 1000000000) (ht : t + 1 ≤ 1000000) (A : Option Addr) (n c : Nat) (ps : List Part) (hB : BytessAt w A n c ps) (hsm : Small (texts ps)) (hn : n ≤ 1000) (hA : ∀ p, A = some p → 0 < n → p.block ∉ F) (hps : ∀ q ∈ ps, ∀ p, q.A = some p → 0 < q.n → p.block ∉ F) (hr : 128 * each < allSize (texts ps)) :
    Calls Try.prog 61 #[.pointer (some ⟨y, 0, none⟩), .slice A n c] w (SpKPost w0 w y a F f each half now sure N t W 101) := by
  obtain ⟨s, d, h1, h2, rfl, rfl, h5, h6⟩ := h
  obtain ⟨q, hq⟩ := h2.inv
  have hf := h2.fail; have ht2 := h2.till
  have e1 : s.replace d (texts ps) = (s, d, 101) := by
    unfold Sp.replace
    rw [if_neg (by rw [hq.wrongNo]; decide), if_neg (by
      simp only [List.any_eq_true, not_exists, not_and]
      intro b hb
      have := hsm b hb
      simp; omega), if_pos hr]
  have hc := sp_replace h1.at_ hq (by omega) (by omega) (by have := h2.turn; omega) (by have := h2.works; omega) A n c ps hB hsm hn hA hps
  rw [e1] at hc
  refine hc.mono ?_
  rintro e w' ⟨rfl, F', g1, g2⟩
  exact ⟨rfl, F', ⟨s, d, h1.step g1 g2, h2, rfl, rfl, h5, h6⟩, g2⟩

theorem SpK.len (h : SpK w0 w y a F f each half now sure N t W) : Calls Try.prog 62 #[.pointer (some ⟨y, 0, none⟩)] w (SpKPost w0 w y a F f each half now sure N t W now.length) := by
  obtain ⟨s, d, h1, h2, rfl, rfl, h5, h6⟩ := h
  obtain ⟨q, hq⟩ := h2.inv
  refine (sp_len h1.at_ hq).mono ?_
  rintro e w' ⟨rfl, F', g1, g2⟩
  exact ⟨by rw [h2.fin.2.2], F', ⟨s, d, h1.step g1 g2, h2, rfl, rfl, h5, h6⟩, g2⟩

theorem SpK.half_ (h : SpK w0 w y a F f each half now sure N t W) : Calls Try.prog 103 #[.pointer (some ⟨y, 0, none⟩)] w (SpKPost w0 w y a F f each half now sure N t W half) := by
  obtain ⟨s, d, h1, h2, rfl, rfl, h5, h6⟩ := h
  obtain ⟨q, hq⟩ := h2.inv
  refine (sp_half h1.at_ hq).mono ?_
  rintro e w' ⟨rfl, F', g1, g2⟩
  exact ⟨rfl, F', ⟨s, d, h1.step g1 g2, h2, rfl, rfl, h5, h6⟩, g2⟩

theorem SpK.left (h : SpK w0 w y a F f each half now sure N t W) : Calls Try.prog 101 #[.pointer (some ⟨y, 0, none⟩)] w (SpKPost w0 w y a F f each half now sure N t W (128 * each - (recs now).length)) := by
  obtain ⟨s, d, h1, h2, rfl, rfl, h5, h6⟩ := h
  obtain ⟨f1, f2, f3⟩ := h2.fin
  obtain ⟨q, hq⟩ := h2.inv
  refine (sp_left h1.at_ hq).mono ?_
  rintro e w' ⟨rfl, F', g1, g2⟩
  exact ⟨by rw [f1, f2], F', ⟨s, d, h1.step g1 g2, h2, rfl, rfl, h5, h6⟩, g2⟩

/-- Opened once more. -/
theorem SpK.again (h : SpK w0 w y a F f each half now sure N t W) {sectors : Nat} (hs4 : 4 ≤ sectors) (hse : (sectors - 2) / 2 = each) (hth : f + sectors ≤ N) :
    Calls Try.prog 58 #[.pointer (some ⟨a, 0, none⟩), .int .i64 f, .int .i64 sectors] w (AgainSp w sure) := by
  obtain ⟨s, d, h1, h2, rfl, rfl, h5, h6⟩ := h
  obtain ⟨q, hq⟩ := h2.inv
  exact sp_again h1.at_ hq.live.dead hq.disk h5.symm hs4 hse (by rw [h2.len]; exact hth)

set_option maxHeartbeats 1000000 in
theorem SpK.opens (h : SpK w0 w y a F 0 4 half now sure 10 t W) (A : Option Addr) (n c : Nat) (ps : List Part) (hB : BytessAt w A n c ps) (ht : texts ps = sure) :
    Calls Try.prog 102 #[.pointer (some ⟨a, 0, none⟩), .slice A n c] w (TrueKept w) := by
  have co := h.again (sectors := 10) (by omega) rfl (by omega)
  replace co : Calls Try.prog 58 #[.pointer (some ⟨a, 0, none⟩), .int .i64 0, .int .i64 10] w (AgainSp w sure) := co
  go_enter Try.func102, Try.ntmps102
  go_wp2_with fail
  refine co.mono ?_
  rintro e w1 ⟨v, A1, n1, c1, ps1, rfl, hk1, hB1, ht1, -, -⟩
  go_wp2_with fail
  refine (sameLists_true w1 A1 A n1 c1 n c ps1 ps hB1 (hB.new hk1) (by rw [ht1, ht])).mono ?_
  rintro e w2 ⟨rfl, hk2⟩
  go_wp2_with fail
  go_ret
  exact ⟨rfl, hk1.trans (by first | exact hk2 | (obtain ⟨q, rfl⟩ := hk2; exact Kept.drewN [] _ q))⟩
end

/-- Open of too few sectors. -/
theorem spool_few {w : World} {a : Nat} {fp : List Nat} {d : Dev} (hD : Dv w a fp d) (hd : d.dead = false) (hl : 0 < d.secs.length) : Calls Try.prog 58 #[.pointer (some ⟨a, 0, none⟩), .int .i64 0, .int .i64 3] w (OpenErr w 9) := by
  obtain ⟨b0, hb0⟩ : ∃ b, d.secs[(0 : Int).toNat]? = some b := ⟨_, List.getElem?_eq_getElem hl⟩
  have cr := read_dv hD 0 (at_live hd (i := 0) hl) hb0
  have i2 : ¬ (d.secs.length : Int) < 0 := by omega
  clear hb0
  go_enter Try.func58, Try.ntmps58
  go_wp2_with fail
  refine cr.mono ?_
  rintro e w1 ⟨A1, c1, rfl, hown1, hbel1⟩
  have hk1 := Kept.of_below (F := []) hbel1
  clear hown1 hbel1 cr
  go_wp2_with fail
  refine (size_dv (hD.new_kept hk1)).mono ?_
  rintro e w1' ⟨rfl, rfl⟩
  go_wp2_with fail
  go_ret3
  exact ⟨rfl, hk1⟩

/-- A new device's log. -/
theorem spk_new {w0 w : World} {a : Nat} {fp : List Nat} {n f sectors each : Nat} (hD : Dv w a fp (Dev.new n)) (hk : Kept [] w0 w) (hN : ∀ j ∈ fp, w0.heap.size ≤ j) (h4 : 4 ≤ sectors) (he : (sectors - 2) / 2 = each) (hf : f + sectors ≤ n) :
    Calls Try.prog 58 #[.pointer (some ⟨a, 0, none⟩), .int .i64 f, .int .i64 sectors] w (fun e w' => ∃ y F A c, e = .returned (.tuple #[.pointer (some ⟨y, 0, none⟩), .slice A 0 c, .int .i64 0]) ∧ SpK w0 w' y a F f each 0 [] [] n 0 0) := by
  refine (sp_new hD hk hN h4 he hf).mono ?_
  rintro e w' ⟨y, F, A, c, rfl, h⟩
  exact ⟨y, F, A, c, rfl, _, _, h, SpC.new (by omega) (by omega), rfl, rfl, rfl, rfl⟩
end Go.Proofs.Ytbnflbkaogpnbaa
