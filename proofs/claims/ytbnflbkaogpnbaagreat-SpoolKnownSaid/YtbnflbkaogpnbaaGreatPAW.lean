/- Texts in one: N3. -/
import Derived.Test.YtbnflbkaogpnbaaGreatPAV
import Derived.Test.YtbnflbkaogpnbaaGreatPAM
namespace Go.Proofs.YtbnflbkaogpnbaaGreat
set_option linter.unusedVariables false
open Go.RowKit
theorem at_live_ {d : Dev} (h : d.dead = false) {i : Nat} (hi : i < d.secs.length) : d.at_ (i : Int) = 0 := by simp [Dev.at_, h]; omega
theorem take_snoc_ {α : Type} {l : List α} {k : Nat} {b : α} (h : l[k]? = some b) : l.take (k + 1) = l.take k ++ [b] := by
 obtain ⟨hk, e⟩ := List.getElem?_eq_some_iff.1 h
 rw [List.take_succ_eq_append_getElem hk, e]
/-- The document's strip: the plain one, and all its bytes. -/
structure RtAt (w : World) (z r : Nat) (sp : List Nat) (s : St) (B : List UInt8) : Prop where
 head : ∃ A c, w.heap[z]? = some (.cells #[.pointer (some ⟨r, 0, none⟩), .int .i64 s.first, .int .i64 s.many, .int .i64 s.fin, .slice A B.length c] 140 (0, 0)) ∧ SlAt w A B.length c (u8vs B) ∧ (A = none → c = 0) ∧ ∀ p, A = some p → p.block ∈ sp ∧ p.block ≠ z
 zin : z ∈ sp
 lt : ∀ j ∈ sp, j < w.heap.size
 fin : s.fin = B.length
 last : s.last = B.drop (128 * (s.fin / 128))
theorem RtAt.kept {w w' : World} {z r : Nat} {sp : List Nat} {s : St} {B : List UInt8} {F : List Nat} (h : RtAt w z r sp s B) (hk : Kept F w w') (hF : ∀ j ∈ sp, j ∉ F) : RtAt w' z r sp s B := by
 obtain ⟨A, c, h1, h2, h3, h4⟩ := h.head
 exact ⟨⟨A, c, (hk.block z (h.lt z h.zin) (hF z h.zin)).trans h1, h2.kept hk (fun p e => hF _ (h4 p e).1), h3, h4⟩, h.zin, fun j hj => Nat.lt_of_lt_of_le (h.lt j hj) hk.size, h.fin, h.last⟩
theorem Dev.Wf.writeOk {d : Dev} (h : d.Wf) (i : Int) (b : Blk) : (d.write i b).1.Wf := by
 unfold Dev.write
 split
 ·exact h
 ·rename_i hz
  have hz' : d.at_ i = 0 := by simpa using hz
  have hi : i.toNat < d.secs.length := by
   unfold Dev.at_ at hz'
   split at hz'
   ·cases hz'
   ·split at hz'
    ·cases hz'
    ·omega
  split
  ·exact h
  ·rename_i hb
   have hb' : b.length = 128 := by simpa using hb
   split
   ·exact h
   ·split
    ·exact (h.midst hi hb').gone _
    ·exact (h.midst hi hb').counted
/-- What Open of the document's strip does. -/
def RtOpen (w : World) (r : Nat) (d : Dev) (first many fin : Int) (e : Ending) (w' : World) : Prop :=
  Kept [] w w' ∧
  ((openBad d first many fin ≠ 0 ∧ e = .returned (.tuple #[.pointer none, .slice none 0 0, .int .i64 (openBad d first many fin)])) ∨
   (openBad d first many fin = 0 ∧ NoRecs ((d.bytesAt first.toNat).take fin.toNat) ∧ e = .returned (.tuple #[.pointer none, .slice none 0 0, .int .i64 110])) ∨
   (openBad d first many fin = 0 ∧ ∃ (z : Nat) (sp : List Nat) (A : Option Addr) (n c : Nat) (l : List Part), e = .returned (.tuple #[.pointer (some ⟨z, 0, none⟩), .slice A n c, .int .i64 0]) ∧ BytessAt w' A n c l ∧ Small (texts l) ∧ (d.bytesAt first.toNat).take fin.toNat = recs (texts l) ∧
     RtAt w' z r sp ⟨first.toNat, many.toNat, fin.toNat, ((d.bytesAt first.toNat).take fin.toNat).drop (fin.toNat - fin.toNat % 128)⟩ ((d.bytesAt first.toNat).take fin.toNat) ∧ ∀ j ∈ sp, w.heap.size ≤ j))
theorem flat_take_secs {S : List Blk} (hs : ∀ b ∈ S, b.length = 128) {f m e : Nat} (hm : f + m ≤ S.length) (he : e ≤ 128 * m) : (((S.drop f).take m).flatten).take e = (S.drop f).flatten.take e := by
 have hl : ∀ (T : List Blk), (∀ b ∈ T, b.length = 128) → T.flatten.length = 128 * T.length := by
  intro T
  induction T with
  | nil => intro _; rfl
  | cons b T ih =>
   intro h
   rw [List.flatten_cons, List.length_append, h b List.mem_cons_self, ih (fun c hc => h c (List.mem_cons_of_mem _ hc)), List.length_cons]
   omega
 have h2 : (S.drop f).flatten = ((S.drop f).take m).flatten ++ ((S.drop f).drop m).flatten := by rw [← List.flatten_append, List.take_append_drop]
 rw [h2, List.take_append_of_le_length]
 rw [hl _ (fun b hb => hs b (List.mem_of_mem_drop (List.mem_of_mem_take hb)))]
 simp
 omega
/-- The bytes so far. -/
def RoLoop (w : World) (d : Dev) (f m : Nat) (v i : Value) (wr : World) : Prop :=
 ∃ (k : Nat) (A : Option Addr) (c : Nat), k ≤ m ∧ i = .int .i64 k ∧ v = .slice A (128 * k) c ∧ wr.ownsRow w.heap.size 5 1 (.slice A (128 * k) c) (128 * k) (u8vs (((d.secs.drop f).take k).flatten)) ∧ (A = none → c = 0) ∧ Kept [] w wr
set_option maxHeartbeats 4000000 in
set_option maxRecDepth 100000 in
theorem ref12Open_any {w : World} {r : Nat} {fp : List Nat} {d : Dev} (hR : Rv w r fp d) (hw : d.Wf) (first many fin : Int) (h1 : I64 first) (h2 : I64 many) (h3 : I64 fin) :
  Calls Tryz.prog 92 #[.pointer (some ⟨r, 0, none⟩), .int .i64 first, .int .i64 many, .int .i64 fin] w (RtOpen w r d first many fin) := by
 unfold I64 at h1 h2 h3
 have hone := hw.one; have hmny := hw.many
 obtain ⟨B, cap, l, s, hA, hI⟩ := id hR
 obtain ⟨c0, c1, c3, c4, c5, c6, cf⟩ := hA.cells
 rw [hA.len, hI.n] at c0
 rw [hI.dead] at c5
 clear c1 c3 c4 c6 cf
 by_cases hd : d.dead = true
 ·have e0 : openBad d first many fin = 100 := by simp [openBad, Dev.at_, hd]
  rw [hd] at c5
  have E0 := Lib.hid e0
  clear hd e0
  go_enter Tryz.func92, Tryz.ntmps92
  go_wp2_with fail
  go_ret3
  unfold RtOpen
  rw [E0.out]
  exact ⟨Kept.refl _ _, .inl ⟨by decide, rfl⟩⟩
 ·have hd0 : d.dead = false := by simpa using hd
  rw [hd0] at c5
  have ha0 : d.at_ 0 = 0 := at_live_ hd0 (i := 0) hone
  by_cases hbad : first < 0 ∨ (d.secs.length : Int) < first ∨ many < 1 ∨ (d.secs.length : Int) - first < many
  ·have e0 : openBad d first many fin = 9 := by unfold openBad; rw [if_neg (by simp [ha0]), if_pos hbad]
   have E0 := Lib.hid e0
   have hcl : ∃ x : Nat, d.secs.length = x := ⟨_, rfl⟩
   obtain ⟨N, hN⟩ := hcl
   rw [hN] at c0 hbad hone hmny
   have hw1 : 0 ≤ first → IntKind.i64.wrap ((N : Int) - first) = (N : Int) - first := fun h => by rw [IntKind.wrap_i64]; omega
   clear e0 hd ha0 hN
   by_cases b1 : first < 0
   ·clear hbad
    go_enter Tryz.func92, Tryz.ntmps92
    go_wp2_with fail
    go_ret3
    unfold RtOpen
    rw [E0.out]
    exact ⟨Kept.refl _ _, .inl ⟨by decide, rfl⟩⟩
   ·by_cases b2 : (N : Int) < first
    ·clear hbad
     go_enter Tryz.func92, Tryz.ntmps92
     go_wp2_with fail
     go_ret3
     unfold RtOpen
     rw [E0.out]
     exact ⟨Kept.refl _ _, .inl ⟨by decide, rfl⟩⟩
    ·by_cases b3 : many < 1
     ·clear hbad
      go_enter Tryz.func92, Tryz.ntmps92
      go_wp2_with fail
      go_ret3
      unfold RtOpen
      rw [E0.out]
      exact ⟨Kept.refl _ _, .inl ⟨by decide, rfl⟩⟩
     ·have b4 : (N : Int) - first < many := by omega
      have hw2 := hw1 (by omega)
      clear hbad hw1
      go_enter Tryz.func92, Tryz.ntmps92
      go_wp2_with fail
      go_ret3
      unfold RtOpen
      rw [E0.out]
      exact ⟨Kept.refl _ _, .inl ⟨by decide, rfl⟩⟩
  ·obtain ⟨f, hf⟩ : ∃ f : Nat, first = f := ⟨first.toNat, by omega⟩
   obtain ⟨m, hm⟩ : ∃ m : Nat, many = m := ⟨many.toNat, by omega⟩
   subst hf hm
   have hfm : f + m ≤ d.secs.length := by omega
   have hm1 : 1 ≤ m := by omega
   have hw1 : IntKind.i64.wrap ((d.secs.length : Int) - (f : Int)) = ((d.secs.length - f : Nat) : Int) := by rw [IntKind.wrap_i64]; omega
   have b1 : ¬ (f : Int) < 0 := by omega
   have b2 : ¬ (d.secs.length : Int) < (f : Int) := by omega
   have b3 : ¬ (m : Int) < 1 := by omega
   have b4 : ¬ ((d.secs.length - f : Nat) : Int) < (m : Int) := by omega
   have hw2 : IntKind.i64.wrap (128 * (m : Int)) = 128 * (m : Int) := by rw [IntKind.wrap_i64]; omega
   by_cases hbad2 : fin < 0 ∨ 128 * (m : Int) < fin
   ·have e0 : openBad d f m fin = 2 := by unfold openBad; rw [if_neg (by simp [ha0]), if_neg hbad, if_pos hbad2]
    have E0 := Lib.hid e0
    clear e0 hbad
    rcases hbad2 with b5 | b5
    ·go_enter Tryz.func92, Tryz.ntmps92
     go_wp2_with fail
     go_ret3
     unfold RtOpen
     rw [E0.out]
     exact ⟨Kept.refl _ _, .inl ⟨by decide, rfl⟩⟩
    ·have b6 : ¬ fin < 0 := by omega
     go_enter Tryz.func92, Tryz.ntmps92
     go_wp2_with fail
     go_ret3
     unfold RtOpen
     rw [E0.out]
     exact ⟨Kept.refl _ _, .inl ⟨by decide, rfl⟩⟩
   ·obtain ⟨e, he⟩ : ∃ e : Nat, fin = e := ⟨fin.toNat, by omega⟩
    subst he
    have e0 : openBad d f m e = 0 := by unfold openBad; rw [if_neg (by simp [ha0]), if_neg hbad, if_neg hbad2]
    have b5 : ¬ (e : Int) < 0 := by omega
    have b6 : ¬ 128 * (m : Int) < (e : Int) := by omega
    have he128 : e ≤ 128 * m := by omega
    have E0 := Lib.hid e0
    have hfl := flat_take_secs hw.size hfm he128
    have hbt : (d.bytesAt f).take e = (((d.secs.drop f).take m).flatten).take e := hfl.symm
    have HBT := Lib.hid hbt
    clear e0 hbad hbad2 hfl hbt hd ha0
    go_enter Tryz.func92, Tryz.ntmps92
    go_wp2_with fail
    go_loopw [11, 12] (fun v i wr => RoLoop w d f m v i wr) (fun _ i _ => m - (intOf i).toNat)
    case atStart => exact ⟨0, none, 0, Nat.zero_le _, rfl, rfl, by simpa [u8vs] using World.ownsRow_nil w w.heap.size 5 1, fun _ => rfl, Kept.refl _ _⟩
    case round =>
     obtain ⟨k, A, c, hk, rfl, rfl, hown, hAc, hkw⟩ := hrel
     have hRk := hR.new_kept hkw
     by_cases hlt : k < m
     ·have i1 : (k : Int) < (m : Int) := by omega
      have hw3 : IntKind.i64.wrap ((f : Int) + (k : Int)) = ((f + k : Nat) : Int) := by rw [IntKind.wrap_i64]; omega
      obtain ⟨b, hb⟩ : ∃ b, d.secs[f + k]? = some b := ⟨_, List.getElem?_eq_getElem (by omega)⟩
      have cr := rv_read hRk ((f + k : Nat) : Int) (at_live_ hd0 (by omega)) (b := b) (by rw [Int.toNat_natCast]; exact hb)
      have hbz := hw.size b (List.mem_of_getElem? hb)
      go_wp2_with fail
      refine cr.mono ?_
      rintro e1 w2 ⟨A2, c2, rfl, hown2, hbel2⟩
      have hk2 := Kept.of_below (F := []) hbel2
      obtain ⟨hs2, hn2⟩ := ClonePost.sl hown2
      have hA2 := row_nil hown2
      have hownk := row_kept hown hk2 (by simp)
      have hz2 := hk2.size; have hzw := hkw.size
      go_wp2_with (refine wpList_append_u8 rfl (.tmp 70) (.tmp 71) rfl w.heap.size (.slice A (128 * k) c) (128 * k) _ rfl hownk A2 128 c2 b rfl hs2 hA2 (by omega) (by omega) ?_; intro A4 c4 w4 hown4 hgrow4 hA4)
      go_roundw
      case rel =>
       have e1 : ((d.secs.drop f).take (k + 1)).flatten = ((d.secs.drop f).take k).flatten ++ b := by
        rw [take_snoc_ (b := b) (by rw [List.getElem?_drop]; exact hb), List.flatten_append]
        simp
       refine ⟨k + 1, A4, c4, by omega, by go_num, by rw [show 128 * (k + 1) = 128 * k + 128 by omega], ?_, hA4, (hkw.trans hk2).trans' (Kept.grown (F := (Value.slice A (128 * k) c).ownBlock.toList) hgrow4 (fun j e => by rw [e]; simp)) (fun i hi => .inr (hownk.lt i (by simpa using hi)).1)⟩
       rw [e1, show 128 * (k + 1) = 128 * k + 128 by omega]
       exact hown4
      case measure => simp [intOf]; omega
     ·have i1 : ¬ (k : Int) < (m : Int) := by omega
      obtain rfl : k = m := by omega
      obtain ⟨A0, c0', e0', hs0, hb0⟩ := SlAt.of_own hown
      cases e0'
      have hsl := hs0.low (j := e) (by omega)
      have hle := hs0.le
      have cr := ref12records_any wr A e c _ hsl (by omega)
      have i2 : (e : Int) ≤ (c : Int) := by omega
      have hxe : (((d.secs.drop f).take k).flatten).take e = (d.bytesAt f).take e := HBT.out.symm
      have hxl : ((((d.secs.drop f).take k).flatten).take e).length = e := by
       have := hsl.len
       unfold u8vs at this
       rw [List.length_map] at this
       exact this
      rw [hxe] at hsl cr hxl
      obtain ⟨X, hX⟩ : ∃ X, (d.bytesAt f).take e = X := ⟨_, rfl⟩
      rw [hX] at hsl cr hxl
      have hx7 : X.drop (e - e % 128) = X.drop (128 * (e / 128)) := by congr 1; omega
      have HX := Lib.hid hX; have HX7 := Lib.hid hx7; have HXL := Lib.hid hxl
      clear hX hxe HBT hx7 hxl hs0 hown
      go_wp2_with fail
      refine cr.mono ?_
      rintro e1 w2 ⟨hk2, ⟨l, A2, c2, ps, hsm, hxr, rfl, hB2, htx⟩ | ⟨hno, rfl⟩⟩
      ·have hsl2 := hsl.kept hk2 (by simp)
       have hkw2 := hkw.trans hk2
       clear cr
       have HXR := Lib.hid hxr; have HTX := Lib.hid htx
       clear hxr htx
       go_wp2_with fail
       refine (copyBytes_any w2 A e c X hsl2 (by omega)).mono ?_
       rintro e1 w3 ⟨A3, c3, rfl, hown3, hbel3⟩
       have hk3 := Kept.of_below (F := []) hbel3
       obtain ⟨hs3, hn3⟩ := ClonePost.sl hown3
       have hA3 := row_nil hown3
       have hl3 : ∀ p, A3 = some p → p.block < w3.heap.size := fun p e => (hown3.lt p.block (by rw [e]; rfl)).2
       have hz2 := hkw2.size; have hz3 := hk3.size
       clear hown3 hbel3
       go_wp2_with fail
       go_ret3
       have kz := Kept.alloc [] w3 (.cells #[.pointer (some ⟨r, 0, none⟩), .int .i64 f, .int .i64 k, .int .i64 e, .slice A3 e c3] 140)
       have hz4 := kz.size
       have hhz := heap_alloc_new w3 (.cells #[.pointer (some ⟨r, 0, none⟩), .int .i64 f, .int .i64 k, .int .i64 e, .slice A3 e c3] 140)
       unfold RtOpen
       rw [E0.out]
       simp only [Int.toNat_natCast]
       rw [HX.out]
       refine ⟨((hkw2.trans hk3).trans kz), .inr (.inr ⟨trivial, w3.heap.size, w3.heap.size :: (A3.map (·.block)).toList, A2, l.length, c2, ps, rfl, ((hB2.new hk3).new kz), by rw [HTX.out]; exact hsm, by rw [HTX.out]; exact HXR.out, ⟨⟨A3, c3, ?_, ?_, hA3, fun p e => ⟨by simp [e], by have := hl3 p e; omega⟩⟩, by simp, fun j hj => ?_, HXL.out.symm, HX7.out⟩, fun j hj => ?_⟩)⟩
       ·rw [HXL.out]
        exact hhz
       ·rw [HXL.out]
        exact hs3.kept kz (by simp)
       ·rcases List.mem_cons.mp hj with rfl | hj
        ·simp
        ·have : ∃ p, A3 = some p ∧ p.block = j := by simpa using hj
         obtain ⟨p, e, rfl⟩ := this
         have := hl3 p e
         omega
       ·rcases List.mem_cons.mp hj with rfl | hj
        ·omega
        ·have : ∃ p, A3 = some p ∧ p.block = j := by simpa using hj
         obtain ⟨p, e, rfl⟩ := this
         have := hn3 p e
         omega
      ·go_wp2_with fail
       go_ret3
       unfold RtOpen
       rw [E0.out]
       simp only [Int.toNat_natCast]
       rw [HX.out]
       exact ⟨hkw.trans hk2, .inr (.inl ⟨trivial, hno, rfl⟩)⟩
end Go.Proofs.YtbnflbkaogpnbaaGreat
